/- body: breaks, raw -/
import Derived.Test.YtjbllanlfgbpkaaGreatDoorHtml1
import Derived.Test.YtjbllanlfgbpkaaGreatDoorSpec2
namespace Go.Proofs.YtjbllanlfgbpkaaGreatDoor
open Go.RowKit

theorem breaks_of (l : Sp.Bs) : Sp.breaks l = (l == [98, 114] || l == [112] || l == [100, 105, 118] || l == [108, 105] || l == [116, 114] || l == [117, 108] || l == [111, 108] || l == [116, 97, 98, 108, 101] || l == [98, 108, 111, 99, 107, 113, 117, 111, 116, 101] || l == [112, 114, 101] || l == [104, 114] || l == [104, 49] || l == [104, 50] || l == [104, 51] || l == [104, 52] || l == [104, 53] || l == [104, 54]) := by
  simp only [Sp.breaks, Sp.breakNames, List.contains_cons, List.contains_nil, Bool.or_false, Bool.or_assoc]

set_option maxHeartbeats 4000000 in
theorem breaks_any (s : ByteArray) (w : World) :
    Calls Tryz.prog 37 #[.string s] w fun e w' => e = .returned (.bool (Sp.breaks s.data.toList)) ∧ w' = w := by
  obtain ⟨R, hR⟩ : ∃ R, R = Sp.breaks s.data.toList := ⟨_, rfl⟩
  rw [← hR]
  rw [breaks_of, ← ByteArray.toList_eq] at hR
  have HR := Lib.hid hR; clear hR
  generalize hl : s.toList = l at HR
  go_enter Tryz.func37, Tryz.ntmps37
  go_wp2
  all_goals
    go_ret
    refine ⟨ret_bool ?_, rfl⟩
    rw [HR.out]
    simp_all

theorem drop_behind (s : ByteArray) (i : Nat) (mark : Sp.Bs) (hi : i ≤ s.size) : i + Sp.behind (s.data.toList.drop i) mark ≤ s.size := by
  have := Sp.behind_le (s.data.toList.drop i) mark
  simp at this
  omega

set_option maxHeartbeats 1000000 in
theorem raw_any (s name : ByteArray) (w : World) (hG : G w) (hs : s.size ≤ 1000000000) (hn : 0 < name.size) (hn2 : name.size ≤ 1000000000) :
    Calls Tryz.prog 80 #[.string s, .string name] w fun e w' => e = .returned (.int .i64 (Sp.raw s.data.toList name.data.toList)) ∧ Quiet w w' := by
  have hlen : s.data.toList.length = s.size := by simp
  have hnl : name.data.toList.length = name.size := by simp
  go_enter Tryz.func80, Tryz.ntmps80
  go_wp2
  go_loopw [5] (fun i wr => ∃ k : Nat, i = .int .i64 k ∧ k ≤ s.size ∧ Hid (Sp.raw s.data.toList name.data.toList = k + Sp.rawL (s.data.toList.drop k) name.data.toList) ∧ Quiet w wr) (fun i _ => s.size - (intOf i).toNat)
  case atStart => exact ⟨0, rfl, Nat.zero_le _, by unfold Hid; simp [Sp.raw, Sp.rawL], Quiet.refl _⟩
  case round =>
    obtain ⟨k, rfl, hk, HR, hq⟩ := hrel
    by_cases hlt : k < s.size
    case neg =>
      have hke : k = s.size := by omega
      have HF : Hid (Sp.raw s.data.toList name.data.toList = s.size) := by
        unfold Hid
        rw [HR.out, hke, List.drop_eq_nil_of_le (by omega), Sp.rawL_nil, Nat.add_zero]
      clear hke HR
      go_wp2
      go_ret
      exact ⟨ret_int (by rw [HF.out]), hq⟩
    have hGr := hG.quiet hq
    have hne : s.data.toList.drop k ≠ [] := by
      intro e
      have := congrArg List.length e
      rw [List.length_drop, hlen] at this
      simp at this
      omega
    have hb1 := drop_behind s k [60, 47] hk
    have hb0 := Sp.behind_pos (s.data.toList.drop k) [60, 47] hne (by simp)
    have hmark := Sp.behind_mark (s.data.toList.drop k) [60, 47]
    have HS := Lib.hid (Sp.rawL_step (s.data.toList.drop k) name.data.toList hne)
    rw [List.drop_drop] at HS
    clear hne
    have HX := Lib.hid (extract_end s k)
    go_wp2_with fail
    refine (behind_any _ _ _ hGr (by simp; omega) (by decide)).mono ?_
    rintro e w' ⟨rfl, rfl⟩
    rw [HX.out]
    rw [show (ByteArray.mk #[60, 47]).data.toList = [60, 47] from rfl]
    generalize Sp.behind (s.data.toList.drop k) [60, 47] = b at *
    by_cases hfit : k + b + name.size ≤ s.size
    case neg =>
      have HF : Hid (Sp.raw s.data.toList name.data.toList = (k + b) + Sp.rawL (s.data.toList.drop (k + b)) name.data.toList) := by
        unfold Hid
        rw [HR.out, HS.out, if_neg]
        · omega
        · rw [hnl, List.length_drop, hlen]
          simp
          omega
      clear hmark HS HR
      go_wp2
      exact ⟨⟨k + b, by go_num, hb1, HF, hq⟩, by simp [intOf]; omega⟩
    have hbl : b < (s.data.toList.drop k).length := by rw [List.length_drop, hlen]; omega
    obtain ⟨hb2, hmk⟩ := hmark hbl
    simp only [List.length_cons, List.length_nil, Nat.zero_add, Nat.reduceAdd] at hb2 hmk
    obtain ⟨m, hm⟩ : ∃ m, k + b = m + 2 := ⟨k + b - 2, by omega⟩
    have hmi : (k : Int) + (b : Int) = (m : Int) + 2 := by omega
    have heq : ((s.extract m (m + 2)).toList == [60, 47]) = true := by
      rw [ByteArray.toList_eq, extract_list]
      rw [List.drop_drop] at hmk
      rw [show m = k + (b - 2) by omega, Nat.add_sub_cancel_left, hmk]
      rfl
    have hcond : (decide (name.data.toList.length ≤ (s.data.toList.drop (k + b)).length) && Sp.same ((s.data.toList.drop (k + b)).take name.data.toList.length) name.data.toList) = Sp.same ((s.data.toList.drop (m + 2)).take name.size) name.data.toList := by
      rw [hnl, hm]
      simp
      intro _
      omega
    have HS2 := Lib.hid HS.out
    rw [hcond, hm] at HS2
    have hb1' : m + 2 ≤ s.size := by omega
    have hfit' : m + 2 + name.size ≤ s.size := by omega
    have HM := Lib.hid hm
    have HEX := Lib.hid (show (s.extract (m + 2) (m + 2 + name.size)).data.toList = (s.data.toList.drop (m + 2)).take name.size by rw [extract_list, Nat.add_sub_cancel_left])
    clear hmark HS hmk hbl hm hcond hb1 hfit HX
    cases hsame : Sp.same ((s.data.toList.drop (m + 2)).take name.size) name.data.toList with
    | false =>
      have HF : Hid (Sp.raw s.data.toList name.data.toList = (m + 2) + Sp.rawL (s.data.toList.drop (m + 2)) name.data.toList) := by
        unfold Hid
        rw [HR.out, HS2.out, hsame]
        have := HM.out
        simp only [Bool.false_eq_true, if_false]
        omega
      have HSM := Lib.hid hsame
      clear HR HS2 hsame
      go_wp2_with fail
      refine (same_any _ _ _ (by simp; omega)).mono ?_
      rintro e w2 ⟨rfl, hq2⟩
      rw [HEX.out, HSM.out]
      go_wp2
      exact ⟨⟨m + 2, by go_num, hb1', HF, hq.trans hq2⟩, by simp [intOf]; omega⟩
    | true =>
      have HF : Hid (Sp.raw s.data.toList name.data.toList = (m + 2 + name.size) + Sp.behind (s.data.toList.drop (m + 2 + name.size)) [62]) := by
        unfold Hid
        rw [HR.out, HS2.out, hsame, if_pos rfl, hnl, List.drop_drop]
        have := HM.out
        omega
      have HSM := Lib.hid hsame
      have HX3 := Lib.hid (extract_end s (m + 2 + name.size))
      have hb3 := drop_behind s (m + 2 + name.size) [62] hfit'
      clear HR HS2 hsame
      go_wp2_with fail
      refine (same_any _ _ _ (by simp; omega)).mono ?_
      rintro e w2 ⟨rfl, hq2⟩
      rw [HEX.out, HSM.out]
      have hG2 := hGr.quiet hq2
      go_wp2_with fail
      refine (behind_any _ _ _ hG2 (by simp; omega) (by decide)).mono ?_
      rintro e w3 ⟨rfl, rfl⟩
      rw [HX3.out]
      rw [show (ByteArray.mk #[62]).data.toList = [62] from rfl]
      generalize Sp.behind (s.data.toList.drop (m + 2 + name.size)) [62] = b3 at *
      go_wp2
      go_ret
      exact ⟨ret_int (by rw [HF.out]; omega), hq.trans hq2⟩

end Go.Proofs.YtjbllanlfgbpkaaGreatDoor
