/- BodyLevels, where small is true -/
import Derived.Test.YtjbllanlfgbpkaaGreatDoorEsc
namespace Go.Proofs.YtjbllanlfgbpkaaGreatDoor
open Go.RowKit

/-- small() is true. -/
def SmallOk : Prop := ∀ w, G w → Calls Tryz.prog 8 #[] w fun e w' => e = .returned (.bool true) ∧ Ext w w'

theorem str_append (a b : Sp.Bs) : (⟨a.toArray⟩ : ByteArray) ++ ⟨b.toArray⟩ = ⟨(a ++ b).toArray⟩ := by
  apply ByteArray.ext
  simp [ByteArray.data_append]
theorem str_snoc (a : Sp.Bs) (c : UInt8) : (⟨a.toArray⟩ : ByteArray) ++ ⟨#[c]⟩ = ⟨(a ++ [c]).toArray⟩ := str_append a [c]

set_option maxRecDepth 100000 in
set_option maxHeartbeats 4000000 in
theorem levels_any (hS : SmallOk) (l : Sp.Bs) (n sp : Int) (w : World) (hG : G w) (hl : l.length ≤ 100000000) (hn0 : -9223372036854775808 ≤ n) (hn1 : n ≤ 9223372036854775807) (hs0 : -9223372036854775808 ≤ sp) (hs1 : sp ≤ 9223372036854775807) :
    Calls Tryz.prog 5 #[str l, .int .i64 n, .int .i64 sp] w fun e w' => e = .returned (.bool true) ∧ Ext w w' := by
  have HS := Lib.hid (hS w hG)
  clear hS
  go_enter Tryz.func5, Tryz.ntmps5
  go_wp2_with fail
  refine HS.out.mono ?_
  rintro e w1 ⟨rfl, hx⟩
  clear HS
  go_wp2_with fail
  refine (level_any _ _ (by simp; omega)).mono ?_
  rintro e w2 ⟨rfl, rfl⟩
  simp only [List.toList_toArray]
  by_cases h0 : (Sp.level l).1 = 0
  case neg =>
    have hp : ((Sp.level l).1 : Int) ≠ 0 := by omega
    have hpos : (0 : Int) < (Sp.level l).1 := by omega
    generalize (Sp.level l).1 = lv at *
    generalize (Sp.level l).2 = rest at *
    clear h0
    by_cases h1 : 500 < l.length
    · go_wp2_with fail
      go_ret
      exact ⟨rfl, hx⟩
    · go_wp2_with fail
      go_ret
      exact ⟨rfl, hx⟩
  have hr := Sp.level_zero l h0
  rw [h0, hr]
  by_cases h1 : 500 < l.length
  · clear hr h0
    go_wp2_with fail
    go_ret
    exact ⟨rfl, hx⟩
  by_cases h2 : n < 1
  · clear hr h0
    go_wp2_with fail
    go_ret
    exact ⟨rfl, hx⟩
  by_cases h3 : 50 < n
  · clear hr h0
    go_wp2_with fail
    go_ret
    exact ⟨rfl, hx⟩
  by_cases h4 : sp < 0
  · clear hr h0
    go_wp2_with fail
    go_ret
    exact ⟨rfl, hx⟩
  by_cases h5 : 5 < sp
  · clear hr h0
    go_wp2_with fail
    go_ret
    exact ⟨rfl, hx⟩
  have HL := Lib.hid h0
  clear hr h0
  obtain ⟨nn, rfl⟩ : ∃ nn : Nat, n = nn := ⟨n.toNat, by omega⟩
  obtain ⟨ss, rfl⟩ : ∃ ss : Nat, sp = ss := ⟨sp.toNat, by omega⟩
  have hnn : nn ≤ 50 := by omega
  have hn1' : 1 ≤ nn := by omega
  have hss : ss ≤ 5 := by omega
  clear hn0 hn1 hs0 hs1 h2 h3 h4 h5
  go_wp2_with fail
  go_loop [10, 11] (fun g i => ∃ (k : Nat) (b : ByteArray), g = .string b ∧ i = .int .i64 k ∧ k ≤ ss ∧ b.size = k ∧ Hid (b.data.toList = List.replicate k 32)) (fun _ i => ss - (intOf i).toNat)
  case atStart => exact ⟨0, ⟨#[]⟩, rfl, rfl, Nat.zero_le _, rfl, rfl⟩
  case round =>
    obtain ⟨k, b, rfl, rfl, hk, hbs, HB⟩ := hrel
    have e1 : (ByteArray.mk #[32]).size = 1 := rfl
    by_cases hlt : k < ss
    case pos =>
      have HN := Lib.hid (show (b ++ ⟨#[32]⟩).data.toList = List.replicate (k + 1) 32 by rw [bs_append, HB.out, List.replicate_succ'])
      have hb : ¬ 9223372036854775807 < b.size + 1 := by omega
      go_wp2_with fail
      exact ⟨⟨k + 1, _, rfl, by go_num, hlt, by rw [ByteArray.size_append, e1, hbs], HN⟩, by simp [intOf]; omega⟩
    case neg =>
      obtain rfl : k = ss := by omega
      go_wp2_with fail
      go_loop [12, 13] (fun s i => ∃ (m : Nat) (u : ByteArray), s = .string u ∧ i = .int .i64 m ∧ m ≤ nn ∧ u.size ≤ 6 * m ∧ Hid (u.data.toList = Sp.signs (List.replicate k 32) m)) (fun _ i => nn - (intOf i).toNat)
      case atStart => exact ⟨0, ⟨#[]⟩, rfl, rfl, Nat.zero_le _, Nat.le_refl _, rfl⟩
      case round =>
        obtain ⟨m, u, rfl, rfl, hm, hus, HU⟩ := hrel
        by_cases hlt2 : m < nn
        case pos =>
          have HN := Lib.hid (show ((u ++ b) ++ ⟨#[62]⟩).data.toList = Sp.signs (List.replicate k 32) (m + 1) by rw [bs_append, bs_append, HB.out, HU.out]; rfl)
          have hb : ¬ 9223372036854775807 < u.size + b.size := by omega
          have hb2 : ¬ 9223372036854775807 < (u ++ b).size + 1 := by rw [ByteArray.size_append]; omega
          have e2 : (ByteArray.mk #[62]).size = 1 := rfl
          go_wp2_with fail
          exact ⟨⟨m + 1, _, rfl, by go_num, hlt2, by rw [ByteArray.size_append, ByteArray.size_append, e2]; omega, HN⟩, by simp [intOf]; omega⟩
        case neg =>
          obtain rfl : m = nn := by omega
          have HLV := Lib.hid (show Sp.level ((u ++ ⟨#[32]⟩) ++ ⟨l.toArray⟩).data.toList = (m, l) by
            rw [bs_append, bs_append, HU.out]
            exact Sp.levels_law l k m HL.out hn1')
          have hb : ¬ 9223372036854775807 < u.size + 1 := by omega
          have hb2 : ¬ 9223372036854775807 < (u ++ ⟨#[32]⟩).size + l.length := by rw [ByteArray.size_append, e1]; omega
          have hfs : ((u ++ ⟨#[32]⟩) ++ ⟨l.toArray⟩).size ≤ 140737488355328 := by rw [ByteArray.size_append, ByteArray.size_append, e1]; simp; omega
          go_wp2_with fail
          refine (level_any _ _ hfs).mono ?_
          rintro e w2 ⟨rfl, rfl⟩
          rw [HLV.out]
          go_wp2_with fail
          go_ret
          exact ⟨rfl, hx⟩

end Go.Proofs.YtjbllanlfgbpkaaGreatDoor
