/- BodyEscapes, where small is true -/
import Derived.Test.YtjbllanlfgbpkaaGreatDoorLevels
import Derived.Test.YtjbllanlfgbpkaaGreatDoorTidy
namespace Go.Proofs.YtjbllanlfgbpkaaGreatDoor
open Go.RowKit

theorem StrsAt.open {w : World} {v : Value} {l : List Sp.Bs} (h : StrsAt w v l) : ∃ a c, v = .slice a l.length c ∧ ∀ j x, l[j]? = some x → ∃ g o, a = some ⟨g, o, none⟩ ∧ w.cell? ⟨g, o + j, none⟩ = some (str x) := by
  rcases h with ⟨rfl, a, c, rfl⟩ | ⟨g, o, c, rfl, hg, hc⟩
  · exact ⟨a, c, rfl, fun j x hj => by simp at hj⟩
  · exact ⟨_, c, rfl, fun j x hj => ⟨g, o, rfl, hc j x hj⟩⟩

theorem Sp.esc_len (l : Sp.Bs) : (Sp.esc l).length ≤ 5 * l.length := by
  induction l with
  | nil => simp [Sp.esc]
  | cons c l ih =>
    have e : Sp.esc (c :: l) = Sp.escOf c ++ Sp.esc l := by simp [Sp.esc]
    have h1 : (Sp.escOf c).length ≤ 5 := by
      unfold Sp.escOf
      repeat' split
      all_goals simp
    rw [e, List.length_append, List.length_cons]
    omega
theorem Sp.moreOf_len (x l : Sp.Bs) (hx : x.length ≤ 100) : (Sp.moreOf x l).length ≤ 300 * (l.length + 1) := by
  have := Sp.esc_len l
  unfold Sp.moreOf Sp.m0 Sp.m1 Sp.m2 Sp.m3
  simp only [List.length_append, List.length_cons, List.length_nil]
  omega
theorem Sp.denseOf_len2 (l : Sp.Bs) : (Sp.denseOf l).length ≤ 300 * (l.length + 1) := by
  have := Sp.squeeze_len l
  unfold Sp.denseOf
  split
  · simp
  · rw [List.length_append]
    simp only [List.length_cons, List.length_nil]
    omega
theorem flat_take_len (f : Sp.Bs → Sp.Bs) (ls : List Sp.Bs) (hf : ∀ l, (f l).length ≤ 300 * (l.length + 1)) : ∀ k, ((ls.take k).flatMap f).length ≤ 300 * (ls.map (fun x => x.length + 1)).sum := by
  induction ls with
  | nil => intro k; simp
  | cons l ls ih =>
    intro k
    cases k with
    | zero => simp
    | succ k =>
      have h1 := hf l
      have h2 := ih k
      rw [List.take_succ_cons, List.flatMap_cons, List.length_append, List.map_cons, List.sum_cons, Nat.mul_add]
      omega
theorem flat_take_succ (f : Sp.Bs → Sp.Bs) (ls : List Sp.Bs) (k : Nat) (l : Sp.Bs) (h : ls[k]? = some l) : (ls.take (k + 1)).flatMap f = (ls.take k).flatMap f ++ f l := by
  rw [List.take_add_one, h]
  simp

theorem Sp.mute_snoc (a : Sp.Bs) (c : UInt8) (h : Sp.mute a) (h1 : ¬ c = 60) (h2 : ¬ c = 62) (h3 : ¬ c = 45) : Sp.mute (a ++ [c]) := by
  obtain ⟨m1, m2, m3⟩ := h
  unfold Sp.mute
  simp only [List.mem_append, List.mem_singleton, not_or]
  exact ⟨⟨m1, fun e => h1 e.symm⟩, ⟨m2, fun e => h2 e.symm⟩, ⟨m3, fun e => h3 e.symm⟩⟩
theorem size_list (u : ByteArray) : u.size = u.data.toList.length := by simp
theorem byteNe (c n : UInt8) (h : ¬ c = n) : ((c.toNat : Int) == (n.toNat : Int)) = false := by
  rw [beq_eq_false_iff_ne]
  intro e
  exact h (UInt8.toNat_inj.1 (by omega))

set_option maxRecDepth 100000 in
set_option maxHeartbeats 4000000 in
theorem escapes_any (hS : SmallOk) (s x : ByteArray) (w : World) (hG : G w) (hs : s.size ≤ 100000000) (hxl : x.size ≤ 100000000) :
    Calls Tryz.prog 4 #[.string s, .string x] w fun e w' => e = .returned (.bool true) ∧ Ext w w' := by
  have HS := Lib.hid (hS w hG)
  clear hS
  go_enter Tryz.func4, Tryz.ntmps4
  go_wp2_with fail
  refine HS.out.mono ?_
  rintro e w1 ⟨rfl, hx⟩
  clear HS
  by_cases h1 : 800 < s.size
  · go_wp2_with fail
    go_ret
    exact ⟨rfl, hx⟩
  by_cases h2 : 100 < x.size
  · go_wp2_with fail
    go_ret
    exact ⟨rfl, hx⟩
  have h1' : s.size ≤ 800 := by omega
  have h2' : x.size ≤ 100 := by omega
  have hG1 := hG.ext hx
  clear h1 h2
  go_wp2_with fail
  go_loop [6] (fun i => ∃ k : Nat, i = .int .i64 k ∧ k ≤ x.size ∧ Hid (Sp.mute (x.data.toList.take k))) (fun i => x.size - (intOf i).toNat)
  case atStart => exact ⟨0, rfl, Nat.zero_le _, by unfold Hid Sp.mute; simp⟩
  case round =>
    obtain ⟨k, rfl, hk, HM⟩ := hrel
    by_cases hlt : k < x.size
    case pos =>
      by_cases c1 : x[k] = 60
      · have e1 : ((x[k].toNat : Int) == 60) = true := by rw [c1]; rfl
        clear HM c1
        go_wp2_with fail
        go_ret
        exact ⟨rfl, hx⟩
      have e1 : ((x[k].toNat : Int) == 60) = false := byteNe _ 60 c1
      by_cases c2 : x[k] = 62
      · have e2 : ((x[k].toNat : Int) == 62) = true := by rw [c2]; rfl
        clear HM c1 c2
        go_wp2_with fail
        go_ret
        exact ⟨rfl, hx⟩
      have e2 : ((x[k].toNat : Int) == 62) = false := byteNe _ 62 c2
      by_cases c3 : x[k] = 45
      · have e3 : ((x[k].toNat : Int) == 45) = true := by rw [c3]; rfl
        clear HM c1 c2 c3
        go_wp2_with fail
        go_ret
        exact ⟨rfl, hx⟩
      have e3 : ((x[k].toNat : Int) == 45) = false := byteNe _ 45 c3
      have HN := Lib.hid (show Sp.mute (x.data.toList.take (k + 1)) by
        rw [take_snoc x k hlt]
        exact Sp.mute_snoc _ _ HM.out c1 c2 c3)
      clear HM c1 c2 c3
      go_wp2_with fail
      exact ⟨⟨k + 1, by go_num, hlt, HN⟩, by simp [intOf]; omega⟩
    case neg =>
      have hxm : Sp.mute x.data.toList := by
        have := HM.out
        rwa [List.take_of_length_le (by simp; omega)] at this
      clear HM
      go_wp2_with fail
      refine (lines_any _ _ hG1 (by omega)).mono ?_
      rintro e w2 ⟨v, rfl, hv, _, hx2⟩
      obtain ⟨a, c, rfl, hcell⟩ := hv.open
      clear hv
      have hxx := ext_trans hx hx2
      have hG2 := hG1.ext hx2
      have hlen := Sp.lines_len s.data.toList
      rw [← size_list] at hlen
      have hD := fun k => flat_take_len Sp.denseOf (Sp.lines s.data.toList) Sp.denseOf_len2 k
      have hM := fun k => flat_take_len (Sp.moreOf x.data.toList) (Sp.lines s.data.toList) (fun l => Sp.moreOf_len x.data.toList l (by rw [← size_list]; exact h2')) k
      obtain ⟨o1, ho1, hd1⟩ := Sp.html_esc s.data.toList
      obtain ⟨o2, ho2, hd2⟩ := Sp.html_more x.data.toList s.data.toList hxm
      have hct := Sp.lines_count s.data.toList
      rw [← size_list] at hct
      have hll := Sp.line_len s.data.toList
      rw [← size_list] at hll
      unfold Sp.moreL at ho2
      unfold Sp.denseL at hd1 hd2
      generalize Sp.lines s.data.toList = ls at *
      have HC := Lib.hid hcell
      have HL := Lib.hid hll
      have HB := Lib.hid (show ∀ k, ((ls.take k).flatMap Sp.denseOf).length ≤ 300000 ∧ ((ls.take k).flatMap (Sp.moreOf x.data.toList)).length ≤ 300000 from fun k => ⟨Nat.le_trans (hD k) (by omega), Nat.le_trans (hM k) (by omega)⟩)
      have HH := Lib.hid (show (Sp.html1 (Sp.esc s.data.toList) = some o1 ∧ Sp.dense o1 = ls.flatMap Sp.denseOf) ∧ (Sp.html1 (ls.flatMap (Sp.moreOf x.data.toList)) = some o2 ∧ Sp.dense o2 = ls.flatMap Sp.denseOf) from ⟨⟨ho1, hd1⟩, ho2, hd2⟩)
      clear hcell hll hD hM ho1 hd1 ho2 hd2 hxm hlen
      go_wp2_with fail
      go_loopw [8, 9, 10] (fun wa mo i wr => ∃ (q : Nat) (u z : ByteArray), wa = .string u ∧ mo = .string z ∧ i = .int .i64 q ∧ q ≤ ls.length ∧ Hid (u.data.toList = (ls.take q).flatMap Sp.denseOf ∧ z.data.toList = (ls.take q).flatMap (Sp.moreOf x.data.toList)) ∧ Ext w2 wr) (fun _ _ i _ => ls.length - (intOf i).toNat)
      case atStart => exact ⟨0, ⟨#[]⟩, ⟨#[]⟩, rfl, rfl, rfl, Nat.zero_le _, by unfold Hid; simp, Below.refl _ _⟩
      case round =>
        obtain ⟨q, u, z, rfl, rfl, rfl, hq, HU, hxr⟩ := hrel
        have hus : u.size ≤ 300000 := by rw [size_list, HU.out.1]; exact (HB.out q).1
        have hzs : z.size ≤ 300000 := by rw [size_list, HU.out.2]; exact (HB.out q).2
        by_cases hlq : q < ls.length
        case pos =>
          have hl : ls[q]? = some ls[q] := List.getElem?_eq_getElem hlq
          obtain ⟨g, o, rfl, hc0⟩ := HC.out q _ hl
          have hc1 := cell_ext hxr hc0
          have hln := HL.out q _ hl
          have HU2 := Lib.hid (show (ls.take (q + 1)).flatMap Sp.denseOf = u.data.toList ++ Sp.denseOf ls[q] ∧ (ls.take (q + 1)).flatMap (Sp.moreOf x.data.toList) = z.data.toList ++ Sp.moreOf x.data.toList ls[q] by
            rw [flat_take_succ _ _ _ _ hl, flat_take_succ _ _ _ _ hl, HU.out.1, HU.out.2]
            exact ⟨rfl, rfl⟩)
          clear HU HC HL HB HH hl hc0
          generalize ls[q] = ln at *
          have hsl := Sp.squeeze_len ln
          have hel := Sp.esc_len ln
          go_wp2_with fail
          refine (squeeze_any _ _ (by simp; omega)).mono ?_
          rintro e w5 ⟨rfl, hx5⟩
          simp only [List.toList_toArray]
          have hxr5 := ext_trans hxr hx5
          replace hc1 := cell_ext hx5 hc1
          have f0 : (ByteArray.mk #[60, 105, 62]).size = 3 := rfl
          have f1 : (ByteArray.mk #[60, 47, 105, 62, 60, 33, 45, 45]).size = 8 := rfl
          have f2 : (ByteArray.mk #[45, 45, 62, 60, 83, 99, 114, 105, 112, 116, 62]).size = 11 := rfl
          have f3 : (ByteArray.mk #[60, 47, 83, 67, 82, 73, 80, 84, 32, 62, 60, 72, 82, 62]).size = 14 := rfl
          have f4 : (ByteArray.mk #[10]).size = 1 := rfl
          have g0 : ¬ 9223372036854775807 < z.size + 3 := by first | omega | (simp only [ByteArray.size_append, size_str, f0, f1, f2, f3]; omega)
          have g1 : ¬ 9223372036854775807 < (z ++ (⟨#[60, 105, 62]⟩ : ByteArray)).size + (Sp.esc ln).length := by first | omega | (simp only [ByteArray.size_append, size_str, f0, f1, f2, f3]; omega)
          have g2 : ¬ 9223372036854775807 < ((z ++ (⟨#[60, 105, 62]⟩ : ByteArray)) ++ ⟨(Sp.esc ln).toArray⟩).size + 8 := by first | omega | (simp only [ByteArray.size_append, size_str, f0, f1, f2, f3]; omega)
          have g3 : ¬ 9223372036854775807 < (((z ++ (⟨#[60, 105, 62]⟩ : ByteArray)) ++ ⟨(Sp.esc ln).toArray⟩) ++ ⟨#[60, 47, 105, 62, 60, 33, 45, 45]⟩).size + x.size := by first | omega | (simp only [ByteArray.size_append, size_str, f0, f1, f2, f3]; omega)
          have g4 : ¬ 9223372036854775807 < ((((z ++ (⟨#[60, 105, 62]⟩ : ByteArray)) ++ ⟨(Sp.esc ln).toArray⟩) ++ ⟨#[60, 47, 105, 62, 60, 33, 45, 45]⟩) ++ x).size + 11 := by first | omega | (simp only [ByteArray.size_append, size_str, f0, f1, f2, f3]; omega)
          have g5 : ¬ 9223372036854775807 < (((((z ++ (⟨#[60, 105, 62]⟩ : ByteArray)) ++ ⟨(Sp.esc ln).toArray⟩) ++ ⟨#[60, 47, 105, 62, 60, 33, 45, 45]⟩) ++ x) ++ ⟨#[45, 45, 62, 60, 83, 99, 114, 105, 112, 116, 62]⟩).size + x.size := by first | omega | (simp only [ByteArray.size_append, size_str, f0, f1, f2, f3]; omega)
          have g6 : ¬ 9223372036854775807 < ((((((z ++ (⟨#[60, 105, 62]⟩ : ByteArray)) ++ ⟨(Sp.esc ln).toArray⟩) ++ ⟨#[60, 47, 105, 62, 60, 33, 45, 45]⟩) ++ x) ++ ⟨#[45, 45, 62, 60, 83, 99, 114, 105, 112, 116, 62]⟩) ++ x).size + 14 := by first | omega | (simp only [ByteArray.size_append, size_str, f0, f1, f2, f3]; omega)
          have HZ := Lib.hid (show (((((((z ++ (⟨#[60, 105, 62]⟩ : ByteArray)) ++ ⟨(Sp.esc ln).toArray⟩) ++ ⟨#[60, 47, 105, 62, 60, 33, 45, 45]⟩) ++ x) ++ ⟨#[45, 45, 62, 60, 83, 99, 114, 105, 112, 116, 62]⟩) ++ x) ++ ⟨#[60, 47, 83, 67, 82, 73, 80, 84, 32, 62, 60, 72, 82, 62]⟩).data.toList = (ls.take (q + 1)).flatMap (Sp.moreOf x.data.toList) by
            rw [HU2.out.2]
            simp only [bs_append, Sp.moreOf, Sp.m0, Sp.m1, Sp.m2, Sp.m3, List.append_assoc])
          have hdo : Hid (Sp.denseOf ln = if Sp.squeeze ln = [] then [] else Sp.squeeze ln ++ [10]) := Lib.hid rfl
          by_cases hz : Sp.squeeze ln = []
          · have HW := Lib.hid (show u.data.toList = (ls.take (q + 1)).flatMap Sp.denseOf by rw [HU2.out.1, hdo.out, if_pos hz, List.append_nil])
            rw [hz]
            clear HU2 hdo hz
            go_wp2_with fail
            refine (escaped_any _ _ (by simp; omega)).mono ?_
            rintro e w6 ⟨rfl, rfl⟩
            simp only [List.toList_toArray]
            clear f0 f1 f2 f3 f4
            generalize Sp.esc ln = en at *
            go_wp2_with fail
            exact ⟨⟨q + 1, _, _, rfl, rfl, by go_num, hlq, ⟨HW.out, HZ.out⟩, hxr5⟩, by simp [intOf]; omega⟩
          · have HW := Lib.hid (show ((u ++ ⟨(Sp.squeeze ln).toArray⟩) ++ ⟨#[10]⟩).data.toList = (ls.take (q + 1)).flatMap Sp.denseOf by
              rw [HU2.out.1, hdo.out, if_neg hz, bs_append, bs_append, List.append_assoc])
            have hz2 : (Sp.squeeze ln).isEmpty = false := by simpa using hz
            have i0 : ¬ 9223372036854775807 < u.size + (Sp.squeeze ln).length := by omega
            have i1 : ¬ 9223372036854775807 < (u ++ ⟨(Sp.squeeze ln).toArray⟩).size + 1 := by simp only [ByteArray.size_append, size_str]; omega
            clear HU2 hdo hz
            generalize Sp.squeeze ln = sq at *
            go_wp2_with fail
            refine (escaped_any _ _ (by simp; omega)).mono ?_
            rintro e w6 ⟨rfl, rfl⟩
            simp only [List.toList_toArray]
            clear f0 f1 f2 f3 f4
            generalize Sp.esc ln = en at *
            go_wp2_with fail
            exact ⟨⟨q + 1, _, _, rfl, rfl, by go_num, hlq, ⟨HW.out, HZ.out⟩, hxr5⟩, by simp [intOf]; omega⟩
        case neg =>
          have HF := Lib.hid (show u.data.toList = ls.flatMap Sp.denseOf ∧ z.data.toList = ls.flatMap (Sp.moreOf x.data.toList) by
            have := HU.out
            rwa [List.take_of_length_le (by omega)] at this)
          have hel := Sp.esc_len s.data.toList
          rw [← size_list] at hel
          have hG3 := hG2.ext hxr
          have hxx3 := ext_trans hxx hxr
          have HS1 : Hid (str (Sp.dense o1) = .string u) := Lib.hid (by rw [str_of HF.out.1, HH.out.1.2])
          have HS2 : Hid (str (Sp.dense o2) = .string u) := Lib.hid (by rw [str_of HF.out.1, HH.out.2.2])
          clear HU HC HL HB
          go_wp2_with fail
          refine (escaped_any _ _ (by omega)).mono ?_
          rintro e w6 ⟨rfl, rfl⟩
          go_wp2_with fail
          refine (html_any _ _ o1 hG3 (by simp; omega) (by simpa using HH.out.1.1)).mono ?_
          rintro e w7 ⟨rfl, hx7⟩
          rw [HS1.out]
          go_wp2_with fail
          refine (html_any _ _ o2 (hG3.ext hx7) (by omega) (by rw [HF.out.2]; exact HH.out.2.1)).mono ?_
          rintro e w8 ⟨rfl, hx8⟩
          rw [HS2.out]
          go_wp2_with fail
          go_ret
          exact ⟨rfl, ext_trans hxx3 (ext_trans hx7 hx8)⟩

end Go.Proofs.YtjbllanlfgbpkaaGreatDoor
