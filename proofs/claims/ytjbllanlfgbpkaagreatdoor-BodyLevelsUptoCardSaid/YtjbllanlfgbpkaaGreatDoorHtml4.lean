/- body.Html, walked -/
import Derived.Test.YtjbllanlfgbpkaaGreatDoorHtml3
import Derived.Test.YtjbllanlfgbpkaaGreatDoorWords
namespace Go.Proofs.YtjbllanlfgbpkaaGreatDoor
open Go.RowKit

theorem Sp.html1_at (s : ByteArray) (k : Nat) (hk : k < s.size) (acc rest out : Sp.Bs) (h1 : Sp.html1 (s.data.toList.drop k) = some rest) (h2 : out = acc ++ rest) :
    ∃ n o, Sp.htmlStep (s.data.toList.drop k) = some (n, o) ∧ 0 < n ∧ k + n ≤ s.size ∧ o.length ≤ n ∧ ∃ rest2, Sp.html1 (s.data.toList.drop (k + n)) = some rest2 ∧ out = (acc ++ o) ++ rest2 := by
  have hne : s.data.toList.drop k ≠ [] := by
    intro e
    have := congrArg List.length e
    simp at this
    omega
  rw [Sp.html1_step _ hne] at h1
  cases hs : Sp.htmlStep (s.data.toList.drop k) with
  | none => rw [hs] at h1; cases h1
  | some p =>
    rw [hs] at h1
    simp only [Option.bind_some, List.drop_drop] at h1
    obtain ⟨r2, hr2, he⟩ := Option.map_eq_some_iff.1 h1
    obtain ⟨a1, a2, a3⟩ := Sp.htmlStep_len _ _ _ hs
    simp at a2
    exact ⟨p.1, p.2, rfl, a1, by omega, a3, r2, hr2, by rw [h2, ← he, List.append_assoc]⟩

set_option maxRecDepth 100000 in
set_option maxHeartbeats 4000000 in
theorem html_any (s : ByteArray) (w : World) (out : Sp.Bs) (hG : G w) (hs : s.size ≤ 100000000) (h : Sp.html1 s.data.toList = some out) :
    Calls Tryz.prog 12 #[.string s] w fun e w' => e = .returned (str (Sp.dense out)) ∧ Ext w w' := by
  go_enter Tryz.func12, Tryz.ntmps12
  go_wp2_with fail
  refine (entities_any w).mono ?_
  rintro e w1 ⟨b0, rfl, hn, hb0, hx1⟩
  have hnew := Bld.new w1
  have hx2 : Ext w (w1.alloc (.cells #[.pointer none, .slice none 0 0] 54)) := ext_alloc hx1 _
  have hn2 : Named (w1.alloc (.cells #[.pointer none, .slice none 0 0] 54)) b0 := hn.ext (ext_alloc (Below.refl _ _) _)
  have hb0' : b0 < w1.heap.size := hn.lt
  have hbs : w.heap.size ≤ w1.heap.size := hx1.size
  have hG2 := hG.ext hx2
  have hI2 := BW.new hnew
  go_wp2_with fail
  generalize w1.alloc (.cells #[.pointer none, .slice none 0 0] 54) = w2 at *
  generalize w1.heap.size = b at *
  clear hn hx1 hnew
  go_loopw [5] (fun i wr => ∃ (k : Nat) (acc rest : Sp.Bs), i = .int .i64 k ∧ k ≤ s.size ∧ acc.length ≤ k ∧ Hid (Sp.html1 (s.data.toList.drop k) = some rest ∧ out = acc ++ rest) ∧ BW w2 b acc wr) (fun i _ => s.size - (intOf i).toNat)
  case atStart => exact ⟨0, [], out, rfl, Nat.zero_le _, Nat.le_refl _, ⟨by rw [List.drop_zero]; exact h, rfl⟩, hI2⟩
  case round =>
    obtain ⟨k, acc, rest, rfl, hk, hal, HR, hI⟩ := hrel
    clear h hI2
    by_cases hlt : k < s.size
    case neg =>
      have HF : Hid (out = acc) := by
        have := HR.out
        rw [List.drop_eq_nil_of_le (by simp; omega)] at this
        obtain ⟨e1, e2⟩ := this
        cases e1
        rw [e2, List.append_nil]
        exact rfl
      clear HR
      have HBn := heap_alloc_new wr (.cells #[.pointer none, .slice none 0 0] 54)
      have hI3 : BW w2 b acc (wr.alloc (.cells #[.pointer none, .slice none 0 0] 54)) := hI.ext (ext_alloc (Below.refl _ _) _)
      have hb2 : b < wr.heap.size := by obtain ⟨o, hb, _⟩ := hI; exact hb.lt
      have hxr : Ext w wr := hI.ext0 hx2 hbs
      have hws := hxr.size
      go_wp2_with fail
      generalize (wr.alloc (.cells #[.pointer none, .slice none 0 0] 54)) = w3 at *
      generalize wr.heap.size = b2 at *
      refine (bwString_any hI3 w.heap.size hbs hx2.size).mono ?_
      rintro e w4 ⟨rfl, hB4, hK4⟩
      have hBld := Bld.kept_none HBn hK4 (by omega)
      have hx4 : Ext w w4 := (hI3.ext0 hx2 hbs).trans hB4
      go_wp2_with fail
      refine (lines_any _ _ (hG.ext hx4) (by simp; omega)).mono ?_
      rintro e w5 ⟨v, rfl, hv, hfb, hx5⟩
      have hx5' := ext_trans hx4 hx5
      have hI5 := BW.new (hBld.ext hx5)
      simp only [List.toList_toArray] at hv
      have hq := Sp.dense_take_len acc
      have hln := Sp.line_len acc
      have hct := Sp.lines_count acc
      have HD := Lib.hid (show Sp.dense out = Sp.denseL (Sp.lines acc) by rw [HF.out]; rfl)
      have hsucc := Sp.denseL_succ (Sp.lines acc)
      have hb24 : b2 < w4.heap.size := hBld.lt
      clear HF hBld hK4 hI3 HBn
      generalize Sp.lines acc = ls at *
      have HS := Lib.hid hsucc
      have HL := Lib.hid hln
      have HQ := Lib.hid hq
      clear hsucc hln hq
      rcases hv with ⟨rfl, a, c, rfl⟩ | ⟨g, o, c, rfl, hg, hcell⟩
      · go_wp2_with fail
        go_loopw [62] (fun j wr2 => j = .int .i64 0 ∧ wr2 = w5) (fun _ _ => 0)
        case atStart => exact ⟨rfl, rfl⟩
        case round =>
          obtain ⟨rfl, rfl⟩ := hrel
          go_wp2_with fail
          refine (bwString_any hI5 w.heap.size (by omega) hx5'.size).mono ?_
          rintro e w6 ⟨rfl, hB6, _⟩
          go_wp2
          go_ret
          exact ⟨by rw [HD.out]; rfl, hx5'.trans hB6⟩
      · have hgb : w4.heap.size ≤ g := hfb _ _ _ rfl
        have HC := Lib.hid hcell
        clear hcell hfb
        go_wp2_with fail
        go_loopw [62] (fun j wr2 => ∃ (q : Nat), j = .int .i64 q ∧ q ≤ ls.length ∧ BW w5 b2 (Sp.denseL (ls.take q)) wr2) (fun j _ => ls.length - (intOf j).toNat)
        case atStart => exact ⟨0, rfl, Nat.zero_le _, hI5⟩
        case round =>
          obtain ⟨q, rfl, hql, hIq⟩ := hrel
          by_cases hlq : q < ls.length
          case neg =>
            have hdone : Hid (Sp.denseL (ls.take q) = Sp.dense out) := by
              unfold Hid
              rw [HD.out, List.take_of_length_le (by omega)]
            go_wp2_with fail
            refine (bwString_any hIq w.heap.size (by omega) hx5'.size).mono ?_
            rintro e w6 ⟨rfl, hB6, _⟩
            have hx6 := (hIq.ext0 hx5' (by omega)).trans hB6
            go_wp2
            go_ret
            exact ⟨by rw [hdone.out]; rfl, hx6⟩
          have hl : ls[q]? = some ls[q] := List.getElem?_eq_getElem hlq
          have hc1 : wr.cell? ⟨g, o + q, none⟩ = some (str ls[q]) := by
            obtain ⟨ob, _, _, hOx⟩ := hIq
            rw [World.cell?_of_block (a := ⟨g, o + q, none⟩) (hOx.block g hg (by omega))]
            exact HC.out q _ hl
          have hl1 := HL.out q _ hl
          have hl2 := HQ.out q
          have hl3 := HQ.out (q + 1)
          have hs1 := HS.out q _ hl
          rw [hs1, List.length_append] at hl3
          have HS1 := Lib.hid hs1
          clear hs1 hl
          generalize ls[q] = ln at *
          go_wp2_with fail
          refine (squeeze_any _ _ (by simp; omega)).mono ?_
          rintro e w7 ⟨rfl, hx7⟩
          simp only [List.toList_toArray]
          replace hIq := hIq.ext hx7
          unfold Sp.denseOf at HS1 hl3
          by_cases hz : Sp.squeeze ln = []
          · rw [if_pos hz, List.append_nil] at HS1
            rw [hz]
            rw [← HS1.out] at hIq
            go_wp2
            exact ⟨⟨q + 1, by go_num, hlq, hIq⟩, by simp [intOf]; omega⟩
          · rw [if_neg hz] at HS1 hl3
            have hz2 : (Sp.squeeze ln).isEmpty = false := by simpa using hz
            generalize Sp.squeeze ln = sq at *
            simp only [List.length_append, List.length_cons, List.length_nil] at hl3
            clear hz
            go_wp2_with fail
            refine (bwWriteString_any _ hIq (by simp; omega)).mono ?_
            rintro e w8 ⟨rfl, hI8⟩
            simp only [List.toList_toArray] at hI8
            go_wp2_with fail
            refine (bwWriteByte_any 10 hI8 (by simp; omega)).mono ?_
            rintro e w9 ⟨rfl, hI9⟩
            rw [List.append_assoc, ← HS1.out] at hI9
            go_wp2
            exact ⟨⟨q + 1, by go_num, hlq, hI9⟩, by simp [intOf]; omega⟩
    obtain ⟨n, o, hst, hn0, hkn, hon, rest2, hr2, hout⟩ := Sp.html1_at s k hlt acc rest out HR.out.1 HR.out.2
    have HF := Lib.hid (show Sp.html1 (s.data.toList.drop (k + n)) = some rest2 ∧ out = (acc ++ o) ++ rest2 from ⟨hr2, hout⟩)
    clear HR hr2 hout
    have hIG : G wr := hG.ext (hI.ext0 hx2 hbs)
    have HX := Lib.hid (extract_end s k)
    have hcons := drop_cons' s k hlt
    unfold Sp.htmlStep at hst
    rw [hcons] at hst
    simp only at hst
    rw [← hcons] at hst
    have hlen : (s.extract k s.size).size ≤ 1000000000 := by simp; omega
    go_wp2_with fail
    refine (tag_any _ _ hIG hlen).mono ?_
    rintro e w3 ⟨rfl, hx3⟩
    rw [HX.out]
    replace hI := hI.ext hx3
    generalize Sp.tagOf (s.data.toList.drop k) = tg at *
    obtain ⟨tn, tm⟩ := tg
    simp only at hst ⊢
    by_cases htn : 0 < tn
    · rw [if_pos htn] at hst
      cases hst
      go_wp2_with fail
      refine (breaks_any _ _).mono ?_
      rintro e w4 ⟨rfl, rfl⟩
      simp only [List.toList_toArray]
      cases hbr : Sp.breaks tm with
      | true =>
        rw [hbr] at HF hon
        go_wp2_with fail
        refine (bwWriteByte_any 10 hI (by omega)).mono ?_
        rintro e w5 ⟨rfl, hI5⟩
        go_wp2
        exact ⟨⟨k + n, _, _, by go_num, hkn, by simp at hon ⊢; omega, HF, hI5⟩, by simp [intOf]; omega⟩
      | false =>
        rw [hbr] at HF
        go_wp2_with fail
        exact ⟨⟨k + n, _, _, by go_num, hkn, by simp; omega, HF, by simpa using hI⟩, by simp [intOf]; omega⟩
    · rw [if_neg htn] at hst
      obtain ⟨p, hp, he⟩ := Option.map_eq_some_iff.1 hst
      obtain ⟨m, c'⟩ := p
      have hel := Sp.ent_len _ _ _ hp
      obtain rfl : tn = 0 := by omega
      have hN := hI.named hn2 (by omega)
      rw [← HX.out] at hp
      have HP := Lib.hid hp
      clear hst htn hp
      go_wp2_with fail
      refine (entity_any _ b0 m c' _ hN hlen HP.out).mono ?_
      rintro e w4 ⟨rfl, rfl⟩
      by_cases hm : 0 < m
      · rw [if_pos hm] at he
        cases he
        go_wp2_with fail
        refine (bwWriteString_any _ hI (by simp; omega)).mono ?_
        rintro e w5 ⟨rfl, hI5⟩
        simp only [List.toList_toArray] at hI5
        go_wp2
        exact ⟨⟨k + n, _, _, by go_num, hkn, by simp; omega, HF, hI5⟩, by simp [intOf]; omega⟩
      · rw [if_neg hm] at he
        cases he
        obtain rfl : m = 0 := by omega
        cases hwh : Sp.isWhite s[k] with
        | true =>
          rw [hwh] at HF hon
          go_wp2_with (go_at_call 40; refine (bwhite_any _ _).mono ?_; rintro e w' ⟨rfl, rfl⟩)
          refine (bwWriteByte_any 32 hI (by omega)).mono ?_
          rintro e w5 ⟨rfl, hI5⟩
          go_wp2
          exact ⟨⟨k + 1, _, _, by go_num, hkn, by simp; omega, HF, hI5⟩, by simp [intOf]; omega⟩
        | false =>
          rw [hwh] at HF hon
          go_wp2_with (go_at_call 40; refine (bwhite_any _ _).mono ?_; rintro e w' ⟨rfl, rfl⟩)
          refine (bwWriteByte_any _ hI (by omega)).mono ?_
          rintro e w5 ⟨rfl, hI5⟩
          go_wp2
          exact ⟨⟨k + 1, _, _, by go_num, hkn, by simp; omega, HF, hI5⟩, by simp [intOf]; omega⟩

end Go.Proofs.YtjbllanlfgbpkaaGreatDoor
