/- body: letter, digit, white, breaks, behind, raw -/
import Derived.Test.YtjbllanlfgbpkaaGreatDoorLevel
namespace Go.Proofs.YtjbllanlfgbpkaaGreatDoor
open Go.RowKit

theorem letter_int (c : UInt8) : Sp.letter c = (decide (97 ≤ (c.toNat : Int) ∧ (c.toNat : Int) ≤ 122) || decide (65 ≤ (c.toNat : Int) ∧ (c.toNat : Int) ≤ 90)) := by
  have := Sp.byte_all (fun c => Sp.letter c == (decide (97 ≤ (c.toNat : Int) ∧ (c.toNat : Int) ≤ 122) || decide (65 ≤ (c.toNat : Int) ∧ (c.toNat : Int) ≤ 90))) (by decide +kernel) c
  simpa using this
theorem digit_int (c : UInt8) : Sp.digit c = decide (48 ≤ (c.toNat : Int) ∧ (c.toNat : Int) ≤ 57) := by
  have := Sp.byte_all (fun c => Sp.digit c == decide (48 ≤ (c.toNat : Int) ∧ (c.toNat : Int) ≤ 57)) (by decide +kernel) c
  simpa using this

set_option maxHeartbeats 400000 in
theorem letter_any (c : UInt8) (w : World) :
    Calls Tryz.prog 76 #[.int .u8 c.toNat] w fun e w' => e = .returned (.bool (Sp.letter c)) ∧ w' = w := by
  rw [letter_int]
  generalize (c.toNat : Int) = n
  obtain ⟨R, hR⟩ : ∃ R, R = (decide (97 ≤ n ∧ n ≤ 122) || decide (65 ≤ n ∧ n ≤ 90)) := ⟨_, rfl⟩
  rw [← hR]
  have HR := Lib.hid hR; clear hR
  by_cases h1 : 97 ≤ n
  · by_cases h2 : n ≤ 122
    · go_enter Tryz.func76, Tryz.ntmps76
      go_wp2
      go_ret
      exact ⟨ret_bool (by rw [HR.out, Bool.eq_iff_iff]; simp <;> omega), rfl⟩
    · have h3 : ¬ n ≤ 90 := by omega
      go_enter Tryz.func76, Tryz.ntmps76
      go_wp2
      all_goals (try go_ret; exact ⟨ret_bool (by rw [HR.out, Bool.eq_iff_iff]; simp <;> omega), rfl⟩)
  · by_cases h4 : 65 ≤ n
    · go_enter Tryz.func76, Tryz.ntmps76
      go_wp2
      all_goals (go_ret; exact ⟨ret_bool (by rw [HR.out, Bool.eq_iff_iff]; simp <;> omega), rfl⟩)
    · go_enter Tryz.func76, Tryz.ntmps76
      go_wp2
      all_goals (go_ret; exact ⟨ret_bool (by rw [HR.out, Bool.eq_iff_iff]; simp <;> omega), rfl⟩)

set_option maxHeartbeats 400000 in
theorem digit_any (c : UInt8) (w : World) :
    Calls Tryz.prog 78 #[.int .u8 c.toNat] w fun e w' => e = .returned (.bool (Sp.digit c)) ∧ w' = w := by
  rw [digit_int]
  generalize (c.toNat : Int) = n
  obtain ⟨R, hR⟩ : ∃ R, R = decide (48 ≤ n ∧ n ≤ 57) := ⟨_, rfl⟩
  rw [← hR]
  have HR := Lib.hid hR; clear hR
  by_cases h1 : 48 ≤ n
  all_goals
    go_enter Tryz.func78, Tryz.ntmps78
    go_wp2
    all_goals (go_ret; exact ⟨ret_bool (by rw [HR.out, Bool.eq_iff_iff]; simp <;> omega), rfl⟩)

set_option maxHeartbeats 400000 in
theorem bwhite_any (c : UInt8) (w : World) :
    Calls Tryz.prog 40 #[.int .u8 c.toNat] w fun e w' => e = .returned (.bool (Sp.isWhite c)) ∧ w' = w := by
  rw [isWhite_int]
  have hb : c.toNat < 256 := c.toNat_lt
  generalize (c.toNat : Int) = n
  by_cases h1 : n = 32
  · subst h1; go_enter Tryz.func40, Tryz.ntmps40; go_wp2; go_ret; exact ⟨rfl, rfl⟩
  have e1 : (n == 32) = false := by simpa using h1
  by_cases h2 : n = 9
  · subst h2; go_enter Tryz.func40, Tryz.ntmps40; go_wp2; go_ret; exact ⟨rfl, rfl⟩
  have e2 : (n == 9) = false := by simpa using h2
  by_cases h3 : n = 10
  · subst h3; go_enter Tryz.func40, Tryz.ntmps40; go_wp2; go_ret; exact ⟨rfl, rfl⟩
  have e3 : (n == 10) = false := by simpa using h3
  go_enter Tryz.func40, Tryz.ntmps40
  go_wp2
  go_ret
  exact ⟨by simp [e1, e2, e3], rfl⟩

set_option maxHeartbeats 400000 in
theorem behind_any (s mark : ByteArray) (w : World) (hG : G w) (hs : s.size ≤ 1000000000) (hm : mark.size ≤ 10) :
    Calls Tryz.prog 77 #[.string s, .string mark] w fun e w' => e = .returned (.int .i64 (Sp.behind s.data.toList mark.data.toList)) ∧ w' = w := by
  have hdef : Hid (Sp.behind s.data.toList mark.data.toList = if 0 ≤ Lib.index s.data.toList mark.data.toList then (Lib.index s.data.toList mark.data.toList).toNat + mark.size else s.size) := by
    unfold Hid Sp.behind
    simp
  have hr := Lib.index_room s.data.toList mark.data.toList
  have hlo := Lib.index_ge s.data.toList mark.data.toList
  simp only [Array.length_toList, ByteArray.size_data] at hr
  go_enter Tryz.func77, Tryz.ntmps77
  go_wp2_with fail
  refine (index_any _ _ _ hG hs).mono ?_
  rintro e w' ⟨rfl, rfl⟩
  generalize Lib.index s.data.toList mark.data.toList = i at *
  by_cases h : 0 ≤ i
  · have hr2 := hr h
    go_wp2
    go_ret
    exact ⟨ret_int (by rw [hdef.out, if_pos h]; omega), rfl⟩
  · go_wp2
    go_ret
    exact ⟨ret_int (by rw [hdef.out, if_neg (by omega)]), rfl⟩

end Go.Proofs.YtjbllanlfgbpkaaGreatDoor
