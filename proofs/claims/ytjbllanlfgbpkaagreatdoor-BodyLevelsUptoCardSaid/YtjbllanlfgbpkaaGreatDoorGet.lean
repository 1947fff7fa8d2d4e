/- header.Get; body.disposition, attached, param -/
import Derived.Test.YtjbllanlfgbpkaaGreatDoorCounts
namespace Go.Proofs.YtjbllanlfgbpkaaGreatDoor
open Go.RowKit

def Sp.find (p : Sp.Bs → Bool) (l : List (Sp.Bs × Sp.Bs)) : Sp.Bs × Bool := match l.find? (fun x => p x.1) with | some x => (x.2, true) | none => ([], false)
theorem Sp.find_drop (p : Sp.Bs → Bool) (l : List (Sp.Bs × Sp.Bs)) (k : Nat) (x : Sp.Bs × Sp.Bs) (h : l[k]? = some x) : Sp.find p (l.drop k) = if p x.1 then (x.2, true) else Sp.find p (l.drop (k + 1)) := by
  obtain ⟨hk, rfl⟩ := List.getElem?_eq_some_iff.1 h
  rw [List.drop_eq_getElem_cons hk]
  unfold Sp.find
  rw [List.find?_cons]
  split <;> rename_i h1
  · split at h1
    · rename_i h2
      cases h1; rw [if_pos (by simpa using h2)]
    · rename_i h2
      rw [if_neg (by simp [h2]), h1]
  · split at h1
    · cases h1
    · rename_i h2
      rw [if_neg (by simp [h2]), h1]
/-- header.Get -/
def Sp.getF (l : List (Sp.Bs × Sp.Bs)) (name : Sp.Bs) : Sp.Bs × Bool := Sp.find (fun n => Sp.same n name) l
/-- body.param -/
def Sp.param (l : List (Sp.Bs × Sp.Bs)) (name : Sp.Bs) : Sp.Bs × Bool := Sp.find (fun n => n == name) l

set_option maxHeartbeats 1000000 in
theorem get_any (v : Value) (l : List (Sp.Bs × Sp.Bs)) (name : ByteArray) (w : World) (hv : PairsAt w v l) (hl : l.length ≤ 1000000000) (hs : ∀ x ∈ l, x.1.length ≤ 1000000000) :
    Calls Tryz.prog 95 #[v, .string name] w fun e w' => e = .returned (.tuple #[str (Sp.getF l name.data.toList).1, .bool (Sp.getF l name.data.toList).2]) ∧ Ext w w' := by
  obtain ⟨a, c, rfl, hc⟩ := hv
  have HC := Lib.hid hc
  have HS := Lib.hid hs
  clear hc hs
  have H0 := Lib.hid (show Sp.getF l name.data.toList = Sp.find (fun n => Sp.same n name.data.toList) (l.drop 0) by rw [List.drop_zero]; rfl)
  go_enter Tryz.func95, Tryz.ntmps95
  go_wp2_with fail
  go_loopw [10] (fun j wr => ∃ k : Nat, j = .int .i64 k ∧ k ≤ l.length ∧ Hid (Sp.getF l name.data.toList = Sp.find (fun n => Sp.same n name.data.toList) (l.drop k)) ∧ Ext w wr) (fun j _ => l.length - (intOf j).toNat)
  case atStart => exact ⟨0, rfl, Nat.zero_le _, H0, Below.refl _ _⟩
  case round =>
    obtain ⟨k, rfl, hk, HR, hx⟩ := hrel
    clear H0
    by_cases hlt : k < l.length
    case neg =>
      have hfin := HR.out
      rw [List.drop_eq_nil_of_le (by omega)] at hfin
      have HF := Lib.hid hfin
      clear HR hfin
      go_wp2_with fail
      go_ret2
      rw [HF.out]
      exact ⟨rfl, hx⟩
    have hd : l[k]? = some l[k] := List.getElem?_eq_getElem hlt
    obtain ⟨g, o, rfl, e0, e1⟩ := HC.out k _ hd
    replace e0 := cell_ext hx e0
    replace e1 := cell_ext hx e1
    have HST := Lib.hid (Sp.find_drop (fun n => Sp.same n name.data.toList) l k _ hd)
    have hsz := HS.out _ (List.getElem_mem hlt)
    clear hd
    generalize l[k] = x at *
    obtain ⟨xn, xv⟩ := x
    simp only at e0 e1 hsz HST
    go_wp2_with fail
    refine (same_any _ _ _ (by simp; omega)).mono ?_
    rintro e w4 ⟨rfl, hq⟩
    simp only [List.toList_toArray]
    have hx4 : Ext w w4 := ext_trans (ext_alloc hx _) hq.ext
    have hnew := HR.out.trans HST.out
    have e2 : w4.cell? ⟨wr.heap.size, 1, none⟩ = some (str xv) :=
      cell_ext hq.ext (by rw [Lib.cell_of_heap (heap_alloc_new _ _)]; rfl)
    cases hsame : Sp.same xn name.data.toList with
    | true =>
      rw [hsame, if_pos rfl] at hnew
      have HN := Lib.hid hnew
      clear hnew HR HST hsame
      go_wp2_with fail
      go_ret2
      rw [HN.out]
      exact ⟨rfl, hx4⟩
    | false =>
      rw [hsame, if_neg (by simp)] at hnew
      have HN := Lib.hid hnew
      clear hnew HR HST hsame
      go_wp2_with fail
      exact ⟨⟨k + 1, by go_num, hlt, HN, hx4⟩, by simp [intOf]; omega⟩


set_option maxHeartbeats 1000000 in
theorem param_any (v : Value) (l : List (Sp.Bs × Sp.Bs)) (name : ByteArray) (w : World) (hv : PairsAt w v l) (hl : l.length ≤ 1000000000) :
    Calls Tryz.prog 73 #[v, .string name] w fun e w' => e = .returned (.tuple #[str (Sp.param l name.data.toList).1, .bool (Sp.param l name.data.toList).2]) ∧ Ext w w' := by
  obtain ⟨a, c, rfl, hc⟩ := hv
  have HC := Lib.hid hc
  clear hc
  obtain ⟨nl, rfl⟩ : ∃ nl : Sp.Bs, name = ⟨nl.toArray⟩ := ⟨name.data.toList, by simp⟩
  simp only [List.toList_toArray]
  have H0 := Lib.hid (show Sp.param l nl = Sp.find (fun n => n == nl) (l.drop 0) by rw [List.drop_zero]; rfl)
  go_enter Tryz.func73, Tryz.ntmps73
  go_wp2_with fail
  go_loopw [10] (fun j wr => ∃ k : Nat, j = .int .i64 k ∧ k ≤ l.length ∧ Hid (Sp.param l nl = Sp.find (fun n => n == nl) (l.drop k)) ∧ Ext w wr) (fun j _ => l.length - (intOf j).toNat)
  case atStart => exact ⟨0, rfl, Nat.zero_le _, H0, Below.refl _ _⟩
  case round =>
    obtain ⟨k, rfl, hk, HR, hx⟩ := hrel
    clear H0
    by_cases hlt : k < l.length
    case neg =>
      have hfin := HR.out
      rw [List.drop_eq_nil_of_le (by omega)] at hfin
      have HF := Lib.hid hfin
      clear HR hfin
      go_wp2_with fail
      go_ret2
      rw [HF.out]
      exact ⟨rfl, hx⟩
    have hd : l[k]? = some l[k] := List.getElem?_eq_getElem hlt
    obtain ⟨g, o, rfl, e0, e1⟩ := HC.out k _ hd
    replace e0 := cell_ext hx e0
    replace e1 := cell_ext hx e1
    have HST := Lib.hid (Sp.find_drop (fun n => n == nl) l k _ hd)
    clear hd
    generalize l[k] = x at *
    obtain ⟨xn, xv⟩ := x
    simp only at e0 e1 HST
    have hnew := HR.out.trans HST.out
    have hx4 : Ext w (wr.alloc (.cells #[str xn, str xv] 48)) := ext_alloc hx _
    cases hsame : (xn == nl) with
    | true =>
      rw [hsame, if_pos rfl] at hnew
      have HN := Lib.hid hnew
      clear hnew HR HST
      go_wp2_with fail
      go_ret2
      rw [HN.out]
      exact ⟨rfl, hx4⟩
    | false =>
      rw [hsame, if_neg (by simp)] at hnew
      have HN := Lib.hid hnew
      clear hnew HR HST
      go_wp2_with fail
      exact ⟨⟨k + 1, by go_num, hlt, HN, hx4⟩, by simp [intOf]; omega⟩

def Sp.dispName : Sp.Bs := [67, 111, 110, 116, 101, 110, 116, 45, 68, 105, 115, 112, 111, 115, 105, 116, 105, 111, 110]
set_option maxHeartbeats 1000000 in
theorem disposition_none (f : List (Sp.Bs × Sp.Bs)) (vf vp vb vt vq : Value) (w : World) (hv : PairsAt w vf f) (hl : f.length ≤ 1000000000) (hs : ∀ x ∈ f, x.1.length ≤ 1000000000) (h : (Sp.getF f Sp.dispName).2 = false) :
    Calls Tryz.prog 109 #[.agg #[vf, vt, vp, vb, vq]] w fun e w' => e = .returned (.tuple #[str [], .slice none 0 0]) ∧ Ext w w' := by
  have hv1 := hv.ext (ext_alloc (Below.refl w.heap.size w) (.cells #[vf, vt, vp, vb, vq] 26))
  have hx1 : Ext w (w.alloc (.cells #[vf, vt, vp, vb, vq] 26)) := ext_alloc (Below.refl _ _) _
  go_enter Tryz.func109, Tryz.ntmps109
  go_wp2_with fail
  refine (get_any _ f _ _ hv1 hl hs).mono ?_
  rintro e w4 ⟨rfl, hx⟩
  rw [show (ByteArray.mk #[67, 111, 110, 116, 101, 110, 116, 45, 68, 105, 115, 112, 111, 115, 105, 116, 105, 111, 110]).data.toList = Sp.dispName from rfl, h]
  go_wp2_with fail
  go_ret2
  exact ⟨rfl, ext_trans hx1 hx⟩

set_option maxHeartbeats 1000000 in
theorem attached_none (f : List (Sp.Bs × Sp.Bs)) (vf vp vb vt vq : Value) (w : World) (hv : PairsAt w vf f) (hl : f.length ≤ 1000000000) (hs : ∀ x ∈ f, x.1.length ≤ 1000000000) (h : (Sp.getF f Sp.dispName).2 = false) :
    Calls Tryz.prog 125 #[.agg #[vf, vt, vp, vb, vq]] w fun e w' => e = .returned (.bool false) ∧ Ext w w' := by
  have hv1 := hv.ext (ext_alloc (Below.refl w.heap.size w) (.cells #[vf, vt, vp, vb, vq] 26))
  have hx1 : Ext w (w.alloc (.cells #[vf, vt, vp, vb, vq] 26)) := ext_alloc (Below.refl _ _) _
  go_enter Tryz.func125, Tryz.ntmps125
  go_wp2_with fail
  refine (disposition_none f _ _ _ _ _ _ hv1 hl hs h).mono ?_
  rintro e w4 ⟨rfl, hx⟩
  go_wp2_with fail
  refine (same_any _ _ _ (by decide)).mono ?_
  rintro e w5 ⟨rfl, hq⟩
  rw [show Sp.same (ByteArray.mk (List.toArray ([] : Sp.Bs))).data.toList (ByteArray.mk #[97, 116, 116, 97, 99, 104, 109, 101, 110, 116]).data.toList = false by decide]
  go_wp2_with fail
  go_ret
  exact ⟨rfl, ext_trans hx1 (ext_trans hx hq.ext)⟩

end Go.Proofs.YtjbllanlfgbpkaaGreatDoor
