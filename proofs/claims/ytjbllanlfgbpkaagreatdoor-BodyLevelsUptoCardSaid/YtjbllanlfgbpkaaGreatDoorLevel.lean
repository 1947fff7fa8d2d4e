/- body.Level -/
import Derived.Test.YtjbllanlfgbpkaaGreatDoorStrs
namespace Go.Proofs.YtjbllanlfgbpkaaGreatDoor
open Go.RowKit

theorem hasPrefix_one (l : Sp.Bs) (c : UInt8) : Lib.hasPrefix l [c] = match l with | [] => false | a :: _ => a == c := by
  unfold Lib.hasPrefix
  cases l with
  | nil => rfl
  | cons a r => simp [List.isPrefixOf, Bool.beq_comm]

set_option maxHeartbeats 1000000 in
theorem level_any (s : ByteArray) (w : World) (hs : s.size ≤ 140737488355328) :
    Calls Tryz.prog 17 #[.string s] w fun e w' => e = .returned (.tuple #[.int .i64 (Sp.level s.data.toList).1, str (Sp.level s.data.toList).2]) ∧ w' = w := by
  go_enter Tryz.func17, Tryz.ntmps17
  go_wp2
  go_loop [4, 5] (fun n r => ∃ (k : Nat) (rest : Sp.Bs), n = .int .i64 k ∧ r = str rest ∧ k + rest.length ≤ s.size ∧ Hid (Sp.lv s.data.toList = (k + (Sp.lv rest).1, (Sp.lv rest).2))) (fun _ r => strLen r)
  case atStart => exact ⟨0, s.data.toList, rfl, rfl, by simp, by unfold Hid; simp⟩
  case round =>
    obtain ⟨k, rest, rfl, rfl, hk, HL⟩ := hrel
    have hst := Sp.lv_step rest
    have hdl := Sp.dropWhile_len (· == 32) rest
    by_cases hgo : ∃ t, rest.dropWhile (· == 32) = 62 :: t
    · obtain ⟨t, ht⟩ := hgo
      rw [ht] at hst hdl
      simp only [beq_self_eq_true, if_true, List.length_cons] at hst hdl
      have hp : Lib.hasPrefix (62 :: t) [62] = true := by rw [hasPrefix_one]; rfl
      have HS := Lib.hid hst; clear hst
      go_wp2_with fail
      refine (Tryz.strings_TrimLeft_one _ 32 (by decide) _).mono ?_
      rintro e w' ⟨rfl, rfl⟩
      rw [show Lib.trimLeftB (⟨rest.toArray⟩ : ByteArray).data.toList 32 = 62 :: t from ht]
      go_wp2_with (go_at_call 47; refine (Tryz.strings_HasPrefix _ _ _).mono ?_; rintro e w' ⟨rfl, rfl⟩)
      have he : Value.string ((⟨(62 :: t).toArray⟩ : ByteArray).extract 1 (t.length + 1)) = str t := by rw [extract_str]; simp
      rw [he]
      exact ⟨⟨k + 1, t, by go_num, rfl, by omega, by unfold Hid; rw [HL.out, HS.out]; simp; omega⟩, by simp [strLen]; omega⟩
    · have hstop : Sp.lv rest = (0, rest) := by
        rw [hst]
        split
        · rfl
        · rename_i c t e
          split
          · rename_i hc
            rw [beq_iff_eq] at hc
            subst hc
            exact absurd ⟨t, e⟩ hgo
          · rfl
      have hp : Lib.hasPrefix (rest.dropWhile (· == 32)) [62] = false := by
        rw [hasPrefix_one]
        split
        · rfl
        · rename_i a r e
          rw [beq_eq_false_iff_ne]
          intro h
          subst h
          exact hgo ⟨r, e⟩
      have HF : Hid (Sp.level s.data.toList = (k, if 0 < k then Lib.trimPrefix rest [32] else rest)) := by
        unfold Hid Sp.level
        rw [HL.out, hstop]
        simp
      clear hst hgo hstop HL
      by_cases hk0 : 0 < k
      · go_wp2_with fail
        refine (Tryz.strings_TrimLeft_one _ 32 (by decide) _).mono ?_
        rintro e w' ⟨rfl, rfl⟩
        rw [show Lib.trimLeftB (⟨rest.toArray⟩ : ByteArray).data.toList 32 = rest.dropWhile (· == 32) from rfl]
        generalize rest.dropWhile (· == 32) = rd at *
        go_wp2_with (first | (go_at_call 47; refine (Tryz.strings_HasPrefix _ _ _).mono ?_; rintro e w' ⟨rfl, rfl⟩) | (go_at_call 48; refine (Tryz.strings_TrimPrefix _ _ _).mono ?_; rintro e w' ⟨rfl, rfl⟩))
        go_ret2
        exact ⟨by rw [HF.out, if_pos hk0]; rfl, rfl⟩
      · obtain rfl : k = 0 := by omega
        go_wp2_with fail
        refine (Tryz.strings_TrimLeft_one _ 32 (by decide) _).mono ?_
        rintro e w' ⟨rfl, rfl⟩
        rw [show Lib.trimLeftB (⟨rest.toArray⟩ : ByteArray).data.toList 32 = rest.dropWhile (· == 32) from rfl]
        generalize rest.dropWhile (· == 32) = rd at *
        go_wp2_with (first | (go_at_call 47; refine (Tryz.strings_HasPrefix _ _ _).mono ?_; rintro e w' ⟨rfl, rfl⟩) | (go_at_call 48; refine (Tryz.strings_TrimPrefix _ _ _).mono ?_; rintro e w' ⟨rfl, rfl⟩))
        go_ret2
        exact ⟨by rw [HF.out, if_neg hk0]; rfl, rfl⟩

end Go.Proofs.YtjbllanlfgbpkaaGreatDoor
