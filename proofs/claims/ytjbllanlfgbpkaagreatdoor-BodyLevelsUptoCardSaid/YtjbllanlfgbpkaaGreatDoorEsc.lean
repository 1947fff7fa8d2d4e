/- escaped -/
import Derived.Test.YtjbllanlfgbpkaaGreatDoorLaw2
import Derived.Test.YtjbllanlfgbpkaaGreatDoorLaw1
import Derived.Test.YtjbllanlfgbpkaaGreatDoorHtml4
namespace Go.Proofs.YtjbllanlfgbpkaaGreatDoor
open Go.RowKit

theorem bs_append (a b : ByteArray) : (a ++ b).data.toList = a.data.toList ++ b.data.toList := by simp [ByteArray.data_append]
theorem str_of {b : ByteArray} {l : Sp.Bs} (h : b.data.toList = l) : Value.string b = str l := by
  cases b
  subst h
  rfl
theorem Sp.esc_append (a b : Sp.Bs) : Sp.esc (a ++ b) = Sp.esc a ++ Sp.esc b := by simp [Sp.esc]
theorem byte_eq (c : UInt8) (n : Nat) (h : c.toNat = n) : ((c.toNat : Int) == (n : Int)) = true := by rw [h]; simp

set_option maxHeartbeats 1000000 in
theorem escaped_any (s : ByteArray) (w : World) (hs : s.size ≤ 1000000) :
    Calls Tryz.prog 16 #[.string s] w fun e w' => e = .returned (str (Sp.esc s.data.toList)) ∧ w' = w := by
  go_enter Tryz.func16, Tryz.ntmps16
  go_wp2
  go_loop [3, 4] (fun r i => ∃ (k : Nat) (b : ByteArray), r = .string b ∧ i = .int .i64 k ∧ k ≤ s.size ∧ b.size ≤ 5 * k ∧ Hid (b.data.toList = Sp.esc (s.data.toList.take k))) (fun _ i => s.size - (intOf i).toNat)
  case atStart => exact ⟨0, ⟨#[]⟩, rfl, rfl, Nat.zero_le _, Nat.le_refl _, by unfold Hid; simp [Sp.esc]⟩
  case round =>
    obtain ⟨k, b, rfl, rfl, hk, hb5, HB⟩ := hrel
    by_cases hlt : k < s.size
    case neg =>
      have HF : Hid (Value.string b = str (Sp.esc s.data.toList)) := Lib.hid (str_of (by rw [HB.out, List.take_of_length_le (by simp; omega)]))
      clear HB
      go_wp2
      go_ret
      exact ⟨by rw [HF.out]; rfl, rfl⟩
    have HN : Hid (∀ u : ByteArray, u.data.toList = Sp.escOf s[k] → (b ++ u).data.toList = Sp.esc (s.data.toList.take (k + 1))) := Lib.hid fun u hu => by
      rw [bs_append, hu, HB.out, take_snoc s k hlt, Sp.esc_append]
      simp [Sp.esc]
    clear HB
    by_cases h1 : s[k] = 38
    · have e1 : ((s[k].toNat : Int) == 38) = true := by rw [h1]; rfl
      have HU := Lib.hid (HN.out ⟨#[38, 97, 109, 112, 59]⟩ (by rw [h1]; rfl))
      clear HN h1
      have hnb : ¬ 9223372036854775807 < b.size + 5 := by omega
      have hnc : ¬ 9223372036854775807 < b.size + 4 := by omega
      go_wp2_with fail
      exact ⟨⟨k + 1, _, rfl, by go_num, hlt, by have e : (ByteArray.mk #[38, 97, 109, 112, 59]).size = 5 := rfl; rw [ByteArray.size_append, e]; omega, HU⟩, by simp [intOf]; omega⟩
    by_cases h2 : s[k] = 60
    · have e1 : ((s[k].toNat : Int) == 60) = true := by rw [h2]; rfl
      have HU := Lib.hid (HN.out ⟨#[38, 108, 116, 59]⟩ (by rw [h2]; rfl))
      have e0 : ((s[k].toNat : Int) == 38) = false := by rw [h2]; rfl
      clear HN h1 h2
      have hnb : ¬ 9223372036854775807 < b.size + 5 := by omega
      have hnc : ¬ 9223372036854775807 < b.size + 4 := by omega
      go_wp2_with fail
      exact ⟨⟨k + 1, _, rfl, by go_num, hlt, by have e : (ByteArray.mk #[38, 108, 116, 59]).size = 4 := rfl; rw [ByteArray.size_append, e]; omega, HU⟩, by simp [intOf]; omega⟩
    by_cases h3 : s[k] = 62
    · have e1 : ((s[k].toNat : Int) == 62) = true := by rw [h3]; rfl
      have HU := Lib.hid (HN.out ⟨#[38, 103, 116, 59]⟩ (by rw [h3]; rfl))
      have e0 : ((s[k].toNat : Int) == 38) = false := by rw [h3]; rfl
      have e2 : ((s[k].toNat : Int) == 60) = false := by rw [h3]; rfl
      clear HN h1 h2 h3
      have hnb : ¬ 9223372036854775807 < b.size + 5 := by omega
      have hnc : ¬ 9223372036854775807 < b.size + 4 := by omega
      go_wp2_with fail
      exact ⟨⟨k + 1, _, rfl, by go_num, hlt, by have e : (ByteArray.mk #[38, 103, 116, 59]).size = 4 := rfl; rw [ByteArray.size_append, e]; omega, HU⟩, by simp [intOf]; omega⟩
    by_cases h4 : s[k] = 10
    · have e1 : ((s[k].toNat : Int) == 10) = true := by rw [h4]; rfl
      have HU := Lib.hid (HN.out ⟨#[60, 98, 114, 47, 62]⟩ (by rw [h4]; rfl))
      have e0 : ((s[k].toNat : Int) == 38) = false := by rw [h4]; rfl
      have e2 : ((s[k].toNat : Int) == 60) = false := by rw [h4]; rfl
      have e3 : ((s[k].toNat : Int) == 62) = false := by rw [h4]; rfl
      clear HN h1 h2 h3 h4
      have hnb : ¬ 9223372036854775807 < b.size + 5 := by omega
      have hnc : ¬ 9223372036854775807 < b.size + 4 := by omega
      go_wp2_with fail
      exact ⟨⟨k + 1, _, rfl, by go_num, hlt, by have e : (ByteArray.mk #[60, 98, 114, 47, 62]).size = 5 := rfl; rw [ByteArray.size_append, e]; omega, HU⟩, by simp [intOf]; omega⟩
    have ne : ∀ n : UInt8, ¬ s[k] = n → ((s[k].toNat : Int) == (n.toNat : Int)) = false := by
      intro n hn
      rw [beq_eq_false_iff_ne]
      intro e
      exact hn (UInt8.toNat_inj.1 (by omega))
    have HU := Lib.hid (HN.out (s.extract k (k + 1)) (by
      rw [extract_list, drop_cons s k hlt]
      simp [Sp.escOf, h1, h2, h3, h4]))
    have e1 : ((s[k].toNat : Int) == 38) = false := ne 38 h1
    have e2 : ((s[k].toNat : Int) == 60) = false := ne 60 h2
    have e3 : ((s[k].toNat : Int) == 62) = false := ne 62 h3
    have e4 : ((s[k].toNat : Int) == 10) = false := ne 10 h4
    clear HN h1 h2 h3 h4 ne
    have hsz : (s.extract k (k + 1)).size = 1 := by simp; omega
    go_wp2_with fail
    exact ⟨⟨k + 1, _, rfl, by go_num, hlt, by rw [ByteArray.size_append, hsz]; omega, HU⟩, by simp [intOf]; omega⟩

end Go.Proofs.YtjbllanlfgbpkaaGreatDoor
