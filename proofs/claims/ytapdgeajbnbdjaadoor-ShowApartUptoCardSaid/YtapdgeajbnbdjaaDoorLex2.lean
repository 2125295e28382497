/- The walks of lex.IsWord, lex.IsName, and of the reference's letter, digit, within, IsWord, IsName. -/
import Derived.Test.YtapdgeajbnbdjaaDoorLex
namespace Go.Proofs.YtapdgeajbnbdjaaDoor
open Go.RowKit

theorem ba_toList (s : ByteArray) : s.toList = s.data.toList := ByteArray.toList_eq s
theorem ba_len (s : ByteArray) : s.data.toList.length = s.size := rfl
theorem isWord_nil : isWord [] = false := by decide +kernel

set_option maxHeartbeats 400000 in
theorem isWord_any (s : ByteArray) (w : World) (he : Env w) (hs : s.size ≤ 2000000) :
    Calls Tryd.prog 62 #[.string s] w fun e w' => e = .returned (.bool (isWord s.data.toList)) ∧ w' = w := by
  obtain ⟨m, hm⟩ := he.maxLen
  have ht := isWord_text s.data.toList
  by_cases h0 : s.toList = []
  · have h0' : s.data.toList = [] := by rw [← ba_toList]; exact h0
    rw [h0', isWord_nil]
    clear ht h0'
    go_enter Tryd.func62, Tryd.ntmps62
    go_wp2_with fail
    go_ret
    exact ⟨rfl, rfl⟩
  · have h0' : s.data.toList.isEmpty = false := by rw [← ba_toList]; simpa using h0
    cases h1 : decide (0 ≤ Lib.indexByte s.data.toList 32)
    · rw [h0', h1] at ht
      clear h0'
      go_enter Tryd.func62, Tryd.ntmps62
      have H1 := Lib.hid h1; clear h1
      have Ht := Lib.hid ht; clear ht
      go_wp2_with (first
        | (go_at_call_of 85 (Value.string ⟨#[32]⟩); refine (Tryd.strings_Contains_one _ _ _).mono ?_; rw [H1.out]; rintro e w' ⟨rfl, rfl⟩)
        | (go_at_call 85; refine (Tryd.strings_Contains _ _ m _ (by decide +kernel) hm).mono ?_; rintro e w' ⟨rfl, rfl⟩))
      go_ret
      exact ⟨ret_bool (Eq.trans (by simp [wordText, wordList, h0]) Ht.out), rfl⟩
    · rw [h0', h1] at ht
      clear h0'
      go_enter Tryd.func62, Tryd.ntmps62
      have H1 := Lib.hid h1; clear h1
      have Ht := Lib.hid ht; clear ht
      go_wp2_with (first
        | (go_at_call_of 85 (Value.string ⟨#[32]⟩); refine (Tryd.strings_Contains_one _ _ _).mono ?_; rw [H1.out]; rintro e w' ⟨rfl, rfl⟩))
      go_ret
      exact ⟨ret_bool (Eq.trans (by simp) Ht.out), rfl⟩

theorem lead_all (p : UInt8 → Bool) (s : ByteArray) : ((lead p s : Int) == (s.size : Int)) = s.data.toList.all p := by
  unfold lead
  rw [← ba_len s]
  generalize s.data.toList = l
  induction l with
  | nil => rfl
  | cons c l ih =>
    cases h : p c
    · simp [h]; omega
    · simp [h]
      rw [← ih]
      rw [Bool.eq_iff_iff]
      simp

set_option maxHeartbeats 800000 in
theorem isName_any (s : ByteArray) (w : World) (he : Env w) (hs : s.size ≤ maxLen) :
    Calls Tryd.prog 33 #[.string s] w fun e w' => e = .returned (.bool (isName s.data.toList)) ∧ w' = w := by
  by_cases h0 : s.toList = []
  · have h0' : s.data.toList = [] := by rw [← ba_toList]; exact h0
    rw [h0']
    clear h0'
    go_enter Tryd.func33, Tryd.ntmps33
    go_wp2_with fail
    go_ret
    exact ⟨rfl, rfl⟩
  · have hpos : 0 < s.size := by
      rw [← ba_len, ← ba_toList]; exact List.length_pos_iff.2 h0
    have hh : s.data.toList.headD 0 = s[0] := by
      rw [List.headD_eq_head?_getD, List.head?_eq_getElem?]
      rw [List.getElem?_eq_getElem (by simpa using hpos)]
      rfl
    have hdef : isName s.data.toList = (decide (s.size ≤ 16) && letter s[0] && s.data.toList.all within && !isWord s.data.toList) := by
      unfold isName
      rw [hh, ba_len]
      have : s.data.toList.isEmpty = false := by rw [← ba_toList]; simpa using h0
      rw [this]; simp
    rw [← lead_all] at hdef
    have Hdef := Lib.hid hdef; clear hdef hh
    by_cases h16 : s.size ≤ 16
    · cases hl : letter s[0]
      · have Hl := Lib.hid hl; clear hl
        go_enter Tryd.func33, Tryd.ntmps33
        go_wp2_with (first
          | (go_at_call 59; refine (begins_any _ _).mono ?_; rw [Hl.out]; rintro e w' ⟨rfl, rfl⟩))
        go_ret
        exact ⟨ret_bool (by rw [Hdef.out, Hl.out]; simp), rfl⟩
      · have Hl := Lib.hid hl; clear hl
        cases ha : ((lead within s : Int) == (s.size : Int))
        · have Hr := Lib.hid ha
          go_enter Tryd.func33, Tryd.ntmps33
          go_wp2_with (first
            | (go_at_call 59; refine (begins_any _ _).mono ?_; rw [Hl.out]; rintro e w' ⟨rfl, rfl⟩)
            | (go_at_call 60; refine (run_any _ _ within _ hs goes_callable goes_any).mono ?_; rintro e w' ⟨rfl, rfl⟩))
          go_ret
          exact ⟨ret_bool (by rw [Hdef.out, Hr.out]; simp), rfl⟩
        · have Hr := Lib.hid ha
          go_enter Tryd.func33, Tryd.ntmps33
          go_wp2_with (first
            | (go_at_call 59; refine (begins_any _ _).mono ?_; rw [Hl.out]; rintro e w' ⟨rfl, rfl⟩)
            | (go_at_call 60; refine (run_any _ _ within _ hs goes_callable goes_any).mono ?_; rintro e w' ⟨rfl, rfl⟩)
            | (go_at_call 62; refine (isWord_any _ _ he (by omega)).mono ?_; rintro e w' ⟨rfl, rfl⟩))
          go_ret
          exact ⟨ret_bool (by rw [Hdef.out, Hr.out, Hl.out]; simp [h16, h0]), rfl⟩
    · go_enter Tryd.func33, Tryd.ntmps33
      go_wp2_with fail
      go_ret
      exact ⟨ret_bool (by rw [Hdef.out]; simp [h16]), rfl⟩

set_option maxHeartbeats 400000 in
theorem rletter_any (c : UInt8) (w : World) :
    Calls Tryd.prog 68 #[.int .u8 c.toNat] w fun e w' => e = .returned (.bool (letter c)) ∧ w' = w := by
  go_enter Tryd.func68, Tryd.ntmps68
  go_wp2
  all_goals go_ret
  all_goals refine ⟨ret_bool ?_, rfl⟩
  all_goals (unfold letter; rw [Bool.eq_iff_iff]; simp; omega)

set_option maxHeartbeats 400000 in
theorem rdigit_any (c : UInt8) (w : World) :
    Calls Tryd.prog 88 #[.int .u8 c.toNat] w fun e w' => e = .returned (.bool (digit c)) ∧ w' = w := by
  go_enter Tryd.func88, Tryd.ntmps88
  go_wp2
  all_goals go_ret
  all_goals refine ⟨ret_bool ?_, rfl⟩
  all_goals (unfold digit; rw [Bool.eq_iff_iff]; simp; omega)

set_option maxHeartbeats 400000 in
theorem rwithin_any (c : UInt8) (w : World) :
    Calls Tryd.prog 70 #[.int .u8 c.toNat] w fun e w' => e = .returned (.bool (within c)) ∧ w' = w := by
  cases h1 : letter c
  · cases h2 : digit c
    all_goals
      go_enter Tryd.func70, Tryd.ntmps70
      have H1 := Lib.hid h1; clear h1
      have H2 := Lib.hid h2; clear h2
      go_wp2_with (first
        | (go_at_call 68; refine (rletter_any _ _).mono ?_; rw [H1.out]; rintro e w' ⟨rfl, rfl⟩)
        | (go_at_call 88; refine (rdigit_any _ _).mono ?_; rw [H2.out]; rintro e w' ⟨rfl, rfl⟩))
      go_ret
      exact ⟨ret_bool (by simp [within, H1.out, H2.out]), rfl⟩
  · go_enter Tryd.func70, Tryd.ntmps70
    have H1 := Lib.hid h1; clear h1
    go_wp2_with (first
      | (go_at_call 68; refine (rletter_any _ _).mono ?_; rw [H1.out]; rintro e w' ⟨rfl, rfl⟩))
    go_ret
    exact ⟨ret_bool (by simp [within, H1.out]), rfl⟩

set_option maxHeartbeats 800000 in
theorem risWord_any (s : ByteArray) (w : World) :
    Calls Tryd.prog 69 #[.string s] w fun e w' => e = .returned (.bool (isWord s.data.toList)) ∧ w' = w := by
  rw [← ba_toList]
  go_enter Tryd.func69, Tryd.ntmps69
  go_wp2
  all_goals go_ret
  all_goals refine ⟨ret_bool ?_, rfl⟩
  all_goals (unfold isWord wordList; simp_all)

set_option maxRecDepth 100000 in
set_option maxHeartbeats 800000 in
theorem risName_any (s : ByteArray) (w : World) (hs : s.size ≤ maxLen) :
    Calls Tryd.prog 44 #[.string s] w fun e w' => e = .returned (.bool (isName s.data.toList)) ∧ w' = w := by
  unfold maxLen at hs
  by_cases h0 : s.size < 1
  · have h0' : s.data.toList = [] := by
      apply List.eq_nil_of_length_eq_zero; rw [ba_len]; omega
    rw [h0']
    clear h0'
    go_enter Tryd.func44, Tryd.ntmps44
    go_wp2_with fail
    go_ret
    exact ⟨rfl, rfl⟩
  · have hpos : 0 < s.size := by omega
    have hh : s.data.toList.headD 0 = s[0] := by
      rw [List.headD_eq_head?_getD, List.head?_eq_getElem?]
      rw [List.getElem?_eq_getElem (by simpa using hpos)]
      rfl
    have hdef : isName s.data.toList = (decide (s.size ≤ 16) && letter s[0] && s.data.toList.all within && !isWord s.data.toList) := by
      unfold isName
      rw [hh, ba_len]
      have : s.data.toList.isEmpty = false := by
        cases h : s.data.toList with
        | nil => have := ba_len s; rw [h] at this; simp at this; omega
        | cons => rfl
      rw [this]; simp
    have Hdef := Lib.hid hdef; clear hdef hh
    by_cases h16 : s.size ≤ 16
    · cases hl : letter s[0]
      · have Hl := Lib.hid hl; clear hl
        go_enter Tryd.func44, Tryd.ntmps44
        go_wp2_with (first
          | (go_at_call 68; refine (rletter_any _ _).mono ?_; rw [Hl.out]; rintro e w' ⟨rfl, rfl⟩))
        go_ret
        exact ⟨ret_bool (by rw [Hdef.out, Hl.out]; simp), rfl⟩
      · have Hl := Lib.hid hl; clear hl
        cases hw : isWord s.data.toList
        · have Hw := Lib.hid hw; clear hw
          go_enter Tryd.func44, Tryd.ntmps44
          go_wp2_with (first
            | (go_at_call 68; refine (rletter_any _ _).mono ?_; rw [Hl.out]; rintro e w' ⟨rfl, rfl⟩)
            | (go_at_call 69; refine (risWord_any _ _).mono ?_; rw [Hw.out]; rintro e w' ⟨rfl, rfl⟩))
          go_loop [3] (fun i => ∃ k : Nat, k ≤ s.size ∧ i = .int .i64 k ∧ Hid ((s.data.toList.take k).all within = true)) (fun i => s.size - (intOf i).toNat)
          case atStart => exact ⟨0, Nat.zero_le _, rfl, by simp [Hid]⟩
          case round =>
            obtain ⟨k, hk, rfl, Hall⟩ := hrel
            by_cases hlt : k < s.size
            · cases hpk : within (s[k]'hlt)
              · have HP := Lib.hid hpk; clear hpk
                go_wp2_with (first
                  | (go_at_call 70; refine (rwithin_any _ _).mono ?_; rw [HP.out]; rintro e w' ⟨rfl, rfl⟩))
                go_ret
                refine ⟨ret_bool ?_, rfl⟩
                have : s.data.toList.all within = false := by
                  rw [List.all_eq_false]
                  exact ⟨s[k], by simp [ByteArray.getElem_eq_getElem_data], by rw [HP.out]; simp⟩
                rw [Hdef.out, this]; simp
              · have HP := Lib.hid hpk; clear hpk
                go_wp2_with (first
                  | (go_at_call 70; refine (rwithin_any _ _).mono ?_; rw [HP.out]; rintro e w' ⟨rfl, rfl⟩))
                go_round
                case rel => exact ⟨k + 1, by omega, by go_num, by
                  have h1 := Hall.out
                  show (List.take (k + 1) s.data.toList).all within = true
                  rw [List.take_succ_eq_append_getElem (by simpa using hlt), List.all_append, h1]
                  have : s.data.toList[k]'(by simpa using hlt) = s[k] := rfl
                  rw [this]
                  simp [HP.out]⟩
                case measure => simp [intOf]; omega
            · go_wp2_with fail
              go_ret
              refine ⟨ret_bool ?_, rfl⟩
              have h1 := Hall.out
              rw [List.take_of_length_le (by rw [ba_len]; omega)] at h1
              rw [Hdef.out, Hl.out, Hw.out, h1]
              simp [h16]
        · have Hw := Lib.hid hw; clear hw
          go_enter Tryd.func44, Tryd.ntmps44
          go_wp2_with (first
            | (go_at_call 68; refine (rletter_any _ _).mono ?_; rw [Hl.out]; rintro e w' ⟨rfl, rfl⟩)
            | (go_at_call 69; refine (risWord_any _ _).mono ?_; rw [Hw.out]; rintro e w' ⟨rfl, rfl⟩))
          go_ret
          exact ⟨ret_bool (by rw [Hdef.out, Hw.out]; simp), rfl⟩
    · go_enter Tryd.func44, Tryd.ntmps44
      go_wp2_with fail
      go_ret
      exact ⟨ret_bool (by rw [Hdef.out]; simp [h16]), rfl⟩
end Go.Proofs.YtapdgeajbnbdjaaDoor
