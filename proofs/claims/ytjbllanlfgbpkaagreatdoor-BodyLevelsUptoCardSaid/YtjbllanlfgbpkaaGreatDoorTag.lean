/- body.tag -/
import Derived.Test.YtjbllanlfgbpkaaGreatDoorHtml2
import Derived.Deep.Cut
import Derived.Deep.CutBlock
import Derived.Deep.DeepCutAuto
import Derived.Lib.Bytes2
namespace Go.Proofs.YtjbllanlfgbpkaaGreatDoor
open Go.RowKit

theorem byte_ne {a k : UInt8} (h : ¬ a = k) : ((a.toNat : Int) != (k.toNat : Int)) = true := by
  rw [bne_iff_ne]; intro e; exact h (UInt8.toNat_inj.1 (by omega))
theorem byte_ne' {a k : UInt8} (h : ¬ a = k) : ((a.toNat : Int) == (k.toNat : Int)) = false := by
  rw [beq_eq_false_iff_ne]; intro e; exact h (UInt8.toNat_inj.1 (by omega))
theorem tail_cons (s : ByteArray) (h : 2 ≤ s.size) : ∃ r, s.data.toList = s[0] :: s[1] :: r := by
  refine ⟨s.data.toList.drop 2, ?_⟩
  have h0 := drop_cons' s 0 (by omega)
  have h1 := drop_cons' s 1 (by omega)
  rw [List.drop_zero] at h0
  exact h0.trans (congrArg (s[0] :: ·) h1)

set_option maxHeartbeats 1000000 in
theorem tag_no (s : ByteArray) (w : World) (h : ∀ h : 2 ≤ s.size, Sp.opens s[0] s[1] = false) :
    Calls Tryz.prog 36 #[.string s] w fun e w' => e = .returned (.tuple #[.int .i64 0, str []]) ∧ w' = w := by
  by_cases h2 : 2 ≤ s.size
  case neg =>
    go_enter Tryz.func36, Tryz.ntmps36
    go_wp2_with fail
    go_ret2
    exact ⟨rfl, rfl⟩
  have ho := h h2
  clear h
  unfold Sp.opens at ho
  by_cases h0 : s[0] = 60
  case neg =>
    have hb : ((s[0].toNat : Int) != 60) = true := byte_ne h0
    clear ho h0
    go_enter Tryz.func36, Tryz.ntmps36
    go_wp2_with fail
    go_ret2
    exact ⟨rfl, rfl⟩
  have hb : ((s[0].toNat : Int) != 60) = false := by rw [h0]; rfl
  simp only [h0, beq_self_eq_true, Bool.true_and, Bool.or_eq_false_iff, beq_eq_false_iff_ne, ne_eq] at ho
  obtain ⟨⟨⟨hl, e1⟩, e2⟩, e3⟩ := ho
  have b1 : ((s[1].toNat : Int) != 47) = true := byte_ne e1
  have b2 : ((s[1].toNat : Int) != 33) = true := byte_ne e2
  have b3 : ((s[1].toNat : Int) != 63) = true := byte_ne e3
  clear h0 e1 e2 e3
  go_enter Tryz.func36, Tryz.ntmps36
  go_wp2_with (go_at_call 76; refine (letter_any _ _).mono ?_; rintro e w' ⟨rfl, rfl⟩)
  go_ret2
  exact ⟨rfl, rfl⟩

set_option maxRecDepth 100000 in
set_option maxHeartbeats 2000000 in
theorem tag_yes (s : ByteArray) (w : World) (hG : G w) (hs : s.size ≤ 1000000000) (h2 : 2 ≤ s.size) (ho : Sp.opens s[0] s[1] = true) :
    Calls Tryz.prog 36 #[.string s] w fun e w' => e = .returned (.tuple #[.int .i64 (Sp.tagOf s.data.toList).1, str (Sp.tagOf s.data.toList).2]) ∧ Ext w w' := by
  unfold Sp.opens at ho
  simp only [Bool.and_eq_true, beq_iff_eq, Bool.or_eq_true] at ho
  obtain ⟨h0, h1⟩ := ho
  have hb : ((s[0].toNat : Int) != 60) = false := by rw [h0]; rfl
  have H0 := Lib.hid h0; clear h0
  have hlt : Value.bool (decide ((s.size : Int) < 2)) = .bool false := by simp; omega
  go_enter Tryz.func36, Tryz.ntmps36
  go_upto_region 1 with fail
  go_cut [36] from 8 (fun t wc => t = .bool false ∧ wc = w)
  case first =>
    by_cases hl : Sp.letter s[1] = true
    · clear h1
      go_wp2_with (go_at_call 76; refine (letter_any _ _).mono ?_; rintro e w' ⟨rfl, rfl⟩)
      go_meet
      first | exact ⟨rfl, rfl⟩ | exact ⟨hlt, rfl⟩
    · have hl' : Sp.letter s[1] = false := by simpa using hl
      by_cases e1 : s[1] = 47
      · have b1 : ((s[1].toNat : Int) != 47) = false := by rw [e1]; rfl
        clear h1 e1 hl
        go_wp2_with (go_at_call 76; refine (letter_any _ _).mono ?_; rintro e w' ⟨rfl, rfl⟩)
        go_meet
        first | exact ⟨rfl, rfl⟩ | exact ⟨hlt, rfl⟩
      · have b1 : ((s[1].toNat : Int) != 47) = true := byte_ne e1
        by_cases e2 : s[1] = 33
        · have b2 : ((s[1].toNat : Int) != 33) = false := by rw [e2]; rfl
          clear h1 e1 e2 hl
          go_wp2_with (go_at_call 76; refine (letter_any _ _).mono ?_; rintro e w' ⟨rfl, rfl⟩)
          go_meet
          first | exact ⟨rfl, rfl⟩ | exact ⟨hlt, rfl⟩
        · have b2 : ((s[1].toNat : Int) != 33) = true := byte_ne e2
          have e3 : s[1] = 63 := by
            rcases h1 with ((h | h) | h) | h
            · exact absurd h hl
            · exact absurd h e1
            · exact absurd h e2
            · exact h
          have b3 : ((s[1].toNat : Int) != 63) = false := by rw [e3]; rfl
          clear h1 e1 e2 e3 hl
          go_wp2_with (go_at_call 76; refine (letter_any _ _).mono ?_; rintro e w' ⟨rfl, rfl⟩)
          go_meet
          first | exact ⟨rfl, rfl⟩ | exact ⟨hlt, rfl⟩
  case rest =>
    obtain ⟨rfl, rfl⟩ := hcut
    clear hlt
    have HO := Lib.hid (show Sp.opens s[0] s[1] = true by
      unfold Sp.opens
      rw [H0.out]
      simpa using h1)
    clear h1
    obtain ⟨r, hr⟩ := tail_cons s h2
    cases hc : Lib.hasPrefix s.data.toList [60, 33, 45, 45] with
    | true =>
      have HF := Lib.hid (show Sp.tagOf s.data.toList = (4 + Sp.behind (s.data.toList.drop 4) [45, 45, 62], []) by
        have := hc
        rw [hr] at this ⊢
        simp only [Sp.tagOf]
        rw [if_pos HO.out, if_pos this])
      have hp4 : 4 ≤ s.size := by
        have := Lib.hasPrefix_le hc
        simpa using this
      have HX := Lib.hid (extract_end s 4)
      have hb := drop_behind s 4 [45, 45, 62] hp4
      clear hr
      have HC := Lib.hid hc; clear hc
      go_wp2_with fail
      refine (Tryz.strings_HasPrefix _ _ _).mono ?_
      rintro e w' ⟨rfl, rfl⟩
      rw [show (ByteArray.mk #[60, 33, 45, 45]).data.toList = [60, 33, 45, 45] from rfl, HC.out]
      go_wp2_with fail
      refine (behind_any _ _ _ hG (by simp; omega) (by decide)).mono ?_
      rintro e w' ⟨rfl, rfl⟩
      rw [HX.out, show (ByteArray.mk #[45, 45, 62]).data.toList = [45, 45, 62] from rfl]
      generalize Sp.behind (s.data.toList.drop 4) [45, 45, 62] = b at *
      go_wp2
      go_ret2
      rw [HF.out]
      exact ⟨by go_num, Below.refl _ _⟩
    | false =>
      have HC := Lib.hid hc; clear hc
      go_wp2_with fail
      refine (Tryz.strings_HasPrefix _ _ _).mono ?_
      rintro e w' ⟨rfl, rfl⟩
      rw [show (ByteArray.mk #[60, 33, 45, 45]).data.toList = [60, 33, 45, 45] from rfl, HC.out]
      go_upto_if 45 with fail
      go_cut [4] (fun v wc2 => v = .int .i64 (Sp.nameAt s[1]) ∧ wc2 = w')
      case first =>
        by_cases e1 : s[1] = 47
        · have b1 : ((s[1].toNat : Int) == 47) = true := by rw [e1]; rfl
          have hv : Sp.nameAt s[1] = 2 := by unfold Sp.nameAt; rw [e1]; rfl
          clear e1
          go_wp2
          go_meet
          exact ⟨by rw [hv]; rfl, rfl⟩
        · have b1 : ((s[1].toNat : Int) == 47) = false := byte_ne' e1
          have hv : Sp.nameAt s[1] = 1 := by unfold Sp.nameAt; rw [if_neg (by simpa using e1)]
          clear e1
          go_wp2
          go_meet
          exact ⟨by rw [hv]; rfl, rfl⟩
      case rest =>
        obtain ⟨rfl, rfl⟩ := hcut
        have hna : Sp.nameAt s[1] = 1 ∨ Sp.nameAt s[1] = 2 := by unfold Sp.nameAt; split <;> simp
        have HT := Lib.hid (show Sp.tagOf s.data.toList = (if Sp.rawName s[1] (Sp.tagName s.data.toList s[1]) then Sp.behind s.data.toList [62] + Sp.raw (s.data.toList.drop (Sp.behind s.data.toList [62])) (Sp.tagName s.data.toList s[1]) else Sp.behind s.data.toList [62], Sp.tagName s.data.toList s[1]) by
          have := HC.out
          rw [hr] at this ⊢
          simp only [Sp.tagOf]
          rw [if_pos HO.out, if_neg (by rw [this]; simp)])
        unfold Sp.rawName Sp.tagName at HT
        clear hr HO HC H0
        generalize Sp.nameAt s[1] = f at *
        go_upto_block 0 with fail
        go_cut [5] (fun v wc2 => (∃ k : Nat, v = .int .i64 k ∧ f ≤ k ∧ k ≤ s.size ∧ Hid ((s.data.toList.drop f).takeWhile Sp.alnum = (s.extract f k).data.toList)) ∧ wc2 = wc)
        case first =>
          clear HT
          go_wp2_with fail
          go_loopw [5] (fun i wr => ∃ k : Nat, i = .int .i64 k ∧ f ≤ k ∧ k ≤ s.size ∧ Hid (∀ c ∈ (s.data.toList.drop f).take (k - f), Sp.alnum c = true) ∧ wr = wc) (fun i _ => s.size - (intOf i).toNat)
          case atStart => exact ⟨f, rfl, Nat.le_refl _, by omega, by unfold Hid; simp, rfl⟩
          case round =>
            obtain ⟨k, rfl, hfk, hk, HA, rfl⟩ := hrel
            by_cases hlt : k < s.size
            case neg =>
              have HF := Lib.hid (show (s.data.toList.drop f).takeWhile Sp.alnum = (s.extract f k).data.toList by
                rw [extract_list]
                have h := Sp.takeWhile_split (p := Sp.alnum) ((s.data.toList.drop f).take (k - f)) [] HA.out (by intro c r h; cases h)
                rw [List.append_nil, List.take_of_length_le (by simp; omega)] at h
                rw [List.take_of_length_le (by simp; omega)]
                exact h)
              clear HA
              go_wp2_with fail
              go_meet
              exact ⟨⟨k, rfl, hfk, hk, HF⟩, rfl⟩
            have hcons := drop_cons' s k hlt
            cases hal : Sp.alnum s[k] with
            | true =>
              have HF := Lib.hid (show ∀ c ∈ (s.data.toList.drop f).take (k + 1 - f), Sp.alnum c = true by
                rw [show k + 1 - f = (k - f) + 1 by omega, List.take_add_one, List.getElem?_drop, show f + (k - f) = k by omega]
                intro c hc
                rcases List.mem_append.1 hc with h | h
                · exact HA.out c h
                · rw [List.getElem?_eq_getElem (by simpa using hlt)] at h
                  simp at h
                  rw [h]; exact hal)
              clear HA hcons
              unfold Sp.alnum at hal
              cases hl : Sp.letter s[k] with
              | true =>
                clear hal
                go_wp2_with (go_at_call 76; refine (letter_any _ _).mono ?_; rintro e w' ⟨rfl, rfl⟩)
                exact ⟨⟨k + 1, by go_num, by omega, hlt, HF, by simp⟩, by simp [intOf]; omega⟩
              | false =>
                rw [hl, Bool.false_or] at hal
                go_wp2_with (first | (go_at_call 76; refine (letter_any _ _).mono ?_; rintro e w' ⟨rfl, rfl⟩) | (go_at_call 78; refine (digit_any _ _).mono ?_; rintro e w' ⟨rfl, rfl⟩))
                exact ⟨⟨k + 1, by go_num, by omega, hlt, HF, by simp⟩, by simp [intOf]; omega⟩
            | false =>
              have HF := Lib.hid (show (s.data.toList.drop f).takeWhile Sp.alnum = (s.extract f k).data.toList by
                rw [extract_list]
                have h := Sp.takeWhile_split (p := Sp.alnum) ((s.data.toList.drop f).take (k - f)) (s.data.toList.drop k) HA.out (by
                  rw [hcons]; intro c r h; cases h; exact hal)
                rw [show s.data.toList.drop k = (s.data.toList.drop f).drop (k - f) by rw [List.drop_drop]; congr 1; omega, List.take_append_drop] at h
                exact h)
              clear HA hcons
              unfold Sp.alnum at hal
              rw [Bool.or_eq_false_iff] at hal
              obtain ⟨hl, hd⟩ := hal
              go_wp2_with (first | (go_at_call 76; refine (letter_any _ _).mono ?_; rintro e w' ⟨rfl, rfl⟩) | (go_at_call 78; refine (digit_any _ _).mono ?_; rintro e w' ⟨rfl, rfl⟩))
              go_meet
              exact ⟨⟨k, rfl, hfk, hk, HF⟩, rfl⟩
        case rest =>
          obtain ⟨⟨k, rfl, hfk, hk, HW⟩, rfl⟩ := hcut
          rw [HW.out] at HT
          go_wp2_with fail
          refine (lowerB_any _ _ (by simp; omega)).mono ?_
          rintro e w2 ⟨rfl, hx⟩
          clear HW
          generalize Sp.lowerL (s.extract f k).data.toList = nm at *
          have hG2 := hG.ext hx
          have hb2 := drop_behind s 0 [62] (by omega)
          rw [List.drop_zero, Nat.zero_add] at hb2
          go_wp2_with fail
          refine (behind_any _ _ _ hG2 hs (by decide)).mono ?_
          rintro e w3 ⟨rfl, rfl⟩
          rw [show (ByteArray.mk #[62]).data.toList = [62] from rfl]
          generalize Sp.behind s.data.toList [62] = b at *
          have HX := Lib.hid (extract_end s b)
          rcases hna with rfl | rfl
          · by_cases hsc : nm = Sp.scriptS
            · subst hsc
              unfold Sp.scriptS at *
              go_wp2_with fail
              refine (raw_any _ _ _ hG2 (by simp; omega) (by decide) (by decide)).mono ?_
              rintro e w4 ⟨rfl, hq⟩
              rw [HX.out]
              have hr4 : b + Sp.raw (s.data.toList.drop b) [115, 99, 114, 105, 112, 116] ≤ s.size := by
                have := Sp.raw_le (s.data.toList.drop b) [115, 99, 114, 105, 112, 116]
                simp at this
                omega
              generalize Sp.raw (s.data.toList.drop b) [115, 99, 114, 105, 112, 116] = q at *
              go_wp2
              go_ret2
              rw [HT.out]
              exact ⟨by go_num, ext_trans hx hq.ext⟩
            · by_cases hst : nm = Sp.styleS
              · subst hst
                unfold Sp.styleS at *
                go_wp2_with fail
                refine (raw_any _ _ _ hG2 (by simp; omega) (by decide) (by decide)).mono ?_
                rintro e w4 ⟨rfl, hq⟩
                rw [HX.out]
                have hr4 : b + Sp.raw (s.data.toList.drop b) [115, 116, 121, 108, 101] ≤ s.size := by
                  have := Sp.raw_le (s.data.toList.drop b) [115, 116, 121, 108, 101]
                  simp at this
                  omega
                generalize Sp.raw (s.data.toList.drop b) [115, 116, 121, 108, 101] = q at *
                go_wp2
                go_ret2
                rw [HT.out]
                exact ⟨by go_num, ext_trans hx hq.ext⟩
              · have b1 : (nm == [115, 99, 114, 105, 112, 116]) = false := by simpa [Sp.scriptS] using hsc
                have b2 : (nm == [115, 116, 121, 108, 101]) = false := by simpa [Sp.styleS] using hst
                rw [show Sp.scriptS = [115, 99, 114, 105, 112, 116] from rfl, show Sp.styleS = [115, 116, 121, 108, 101] from rfl, b1, b2] at HT
                clear hsc hst
                go_wp2_with fail
                go_ret2
                rw [HT.out]
                exact ⟨rfl, hx⟩
          · go_wp2_with fail
            go_ret2
            rw [HT.out]
            exact ⟨rfl, hx⟩
end Go.Proofs.YtjbllanlfgbpkaaGreatDoor
