/- body.tidy -/
import Derived.Test.YtjbllanlfgbpkaaGreatDoorGet
namespace Go.Proofs.YtjbllanlfgbpkaaGreatDoor
open Go.RowKit

def Sp.tidyOf (l : Sp.Bs) : Sp.Bs := Lib.trimRightS l [32, 9, 13] ++ [10]
def Sp.tidyL (ls : List Sp.Bs) : Sp.Bs := ls.flatMap Sp.tidyOf
/-- body.tidy -/
def Sp.tidy (t : Sp.Bs) : Sp.Bs := Sp.tidyL (Sp.lines t)
theorem Sp.tidyL_succ (ls : List Sp.Bs) (q : Nat) (l : Sp.Bs) (h : ls[q]? = some l) : Sp.tidyL (ls.take (q + 1)) = Sp.tidyL (ls.take q) ++ (Lib.trimRightS l [32, 9, 13] ++ [10]) := by
  unfold Sp.tidyL
  rw [List.take_add_one, h]
  simp [Sp.tidyOf]
theorem Sp.trimRightS_len (l cs : Sp.Bs) : (Lib.trimRightS l cs).length ≤ l.length := by
  unfold Lib.trimRightS
  have := Sp.dropWhile_len (cs.contains ·) l.reverse
  simpa using this
theorem Sp.tidyL_len (ls : List Sp.Bs) : (Sp.tidyL ls).length ≤ (ls.map (fun x => x.length + 1)).sum := by
  unfold Sp.tidyL
  induction ls with
  | nil => exact Nat.le_refl _
  | cons l ls ih =>
    simp only [List.flatMap_cons, List.length_append, List.map_cons, List.sum_cons]
    have : (Sp.tidyOf l).length ≤ l.length + 1 := by
      unfold Sp.tidyOf
      have := Sp.trimRightS_len l [32, 9, 13]
      simp only [List.length_append, List.length_cons, List.length_nil]; omega
    omega
theorem Sp.tidy_take_len (t : Sp.Bs) (q : Nat) : (Sp.tidyL ((Sp.lines t).take q)).length ≤ t.length + 1 := by
  have h1 := Sp.tidyL_len ((Sp.lines t).take q)
  have h2 := Sp.sum_take ((Sp.lines t).map (fun x => x.length + 1)) q
  have h3 := Sp.lines_len t
  rw [← List.map_take] at h2
  omega
theorem Sp.tidy_len (t : Sp.Bs) : (Sp.tidy t).length ≤ t.length + 1 := by
  have := Sp.tidy_take_len t (Sp.lines t).length
  rwa [List.take_length] at this

theorem trimSet_ascii : ∀ (j : Nat) b, ([32, 9, 13] : Sp.Bs)[j]? = some b → b.toNat < 128
  | 0, _, h => by cases h; decide
  | 1, _, h => by cases h; decide
  | 2, _, h => by cases h; decide
  | j + 3, _, h => by cases h
theorem trimRight_any (s : ByteArray) (w : World) (hs : s.size ≤ 1000000000) :
    Calls Tryz.prog 72 #[.string s, .string ⟨#[32, 9, 13]⟩] w fun e w' => e = .returned (str (Lib.trimRightS s.data.toList [32, 9, 13])) ∧ Ext w w' :=
  Any.strings_TrimRight_laid Tryz.lays162 (by kernel_rfl) s ⟨#[32, 9, 13]⟩ w (by omega) (by decide) trimSet_ascii

set_option maxHeartbeats 2000000 in
theorem tidy_any (s : ByteArray) (w : World) (hG : G w) (hs : s.size ≤ 100000000) :
    Calls Tryz.prog 31 #[.string s] w fun e w' => e = .returned (str (Sp.tidy s.data.toList)) ∧ Ext w w' := by
  have hx1 : Ext w (w.alloc (.cells #[.pointer none, .slice none 0 0] 54)) := ext_alloc (Below.refl _ _) _
  have hB := Bld.new w
  go_enter Tryz.func31, Tryz.ntmps31
  go_wp2_with fail
  refine (lines_any _ _ (hG.ext hx1) (by omega)).mono ?_
  rintro e w5 ⟨v, rfl, hv, hfb, hx5⟩
  have hx5' := ext_trans hx1 hx5
  have hI5 := BW.new (hB.ext hx5)
  have hbl : w.heap.size < (w.alloc (.cells #[.pointer none, .slice none 0 0] 54)).heap.size := by rw [World.size_alloc]; omega
  have hq := Sp.tidy_take_len s.data.toList
  have hln := Sp.line_len s.data.toList
  have hct := Sp.lines_count s.data.toList
  have hsl : s.data.toList.length = s.size := by simp
  rw [hsl] at hct
  have HD := Lib.hid (show Sp.tidy s.data.toList = Sp.tidyL (Sp.lines s.data.toList) from rfl)
  have hsucc := Sp.tidyL_succ (Sp.lines s.data.toList)
  clear hB
  generalize (w.alloc (.cells #[.pointer none, .slice none 0 0] 54)).heap.size = w1s at *
  generalize hb : w.heap.size = b at *
  generalize Sp.lines s.data.toList = ls at *
  have HS := Lib.hid hsucc
  have HL := Lib.hid hln
  have HQ := Lib.hid hq
  clear hsucc hln hq
  rcases hv with ⟨rfl, a, c, rfl⟩ | ⟨g, o, c, rfl, hg, hcell⟩
  · go_wp2_with fail
    go_loopw [9] (fun j wr2 => j = .int .i64 0 ∧ wr2 = w5) (fun _ _ => 0)
    case atStart => exact ⟨rfl, rfl⟩
    case round =>
      obtain ⟨rfl, rfl⟩ := hrel
      go_wp2_with fail
      refine (bwString_any hI5 w.heap.size (by omega) hx5'.size).mono ?_
      rintro e w6 ⟨rfl, hB6, _⟩
      go_wp2
      go_ret
      exact ⟨by rw [HD.out]; rfl, hx5'.trans hB6⟩
  · have hgb : w1s ≤ g := hfb _ _ _ rfl
    have HC := Lib.hid hcell
    clear hcell hfb
    go_wp2_with fail
    go_loopw [9] (fun j wr2 => ∃ (q : Nat), j = .int .i64 q ∧ q ≤ ls.length ∧ BW w5 b (Sp.tidyL (ls.take q)) wr2) (fun j _ => ls.length - (intOf j).toNat)
    case atStart => exact ⟨0, rfl, Nat.zero_le _, hI5⟩
    case round =>
      obtain ⟨q, rfl, hql, hIq⟩ := hrel
      by_cases hlq : q < ls.length
      case neg =>
        have hdone : Hid (Sp.tidyL (ls.take q) = Sp.tidy s.data.toList) := by
          unfold Hid
          rw [HD.out, List.take_of_length_le (by omega)]
        go_wp2_with fail
        refine (bwString_any hIq w.heap.size (by omega) hx5'.size).mono ?_
        rintro e w6 ⟨rfl, hB6, _⟩
        have hx6 := (hIq.ext0 hx5' (by omega)).trans hB6
        go_wp2
        go_ret
        exact ⟨by rw [hdone.out]; rfl, hx6⟩
      have hl : ls[q]? = some ls[q] := List.getElem?_eq_getElem hlq
      have hc1 : wr.cell? ⟨g, o + q, none⟩ = some (str ls[q]) := by
        obtain ⟨ob, _, _, hOx⟩ := hIq
        rw [World.cell?_of_block (a := ⟨g, o + q, none⟩) (hOx.block g hg (by omega))]
        exact HC.out q _ hl
      have hl1 := HL.out q _ hl
      have hl2 := HQ.out q
      have hl3 := HQ.out (q + 1)
      have hs1 := HS.out q _ hl
      rw [hs1, List.length_append] at hl3
      have HS1 := Lib.hid hs1
      clear hs1 hl
      generalize ls[q] = ln at *
      go_wp2_with fail
      refine (trimRight_any _ _ (by simp; omega)).mono ?_
      rintro e w7 ⟨rfl, hx7⟩
      simp only [List.toList_toArray]
      replace hIq := hIq.ext hx7
      generalize Lib.trimRightS ln [32, 9, 13] = sq at *
      simp only [List.length_append, List.length_cons, List.length_nil] at hl3
      go_wp2_with fail
      refine (bwWriteString_any _ hIq (by simp; omega)).mono ?_
      rintro e w8 ⟨rfl, hI8⟩
      simp only [List.toList_toArray] at hI8
      go_wp2_with fail
      refine (bwWriteByte_any 10 hI8 (by simp; omega)).mono ?_
      rintro e w9 ⟨rfl, hI9⟩
      rw [List.append_assoc, ← HS1.out] at hI9
      go_wp2
      exact ⟨⟨q + 1, by go_num, hlq, hI9⟩, by simp [intOf]; omega⟩

end Go.Proofs.YtjbllanlfgbpkaaGreatDoor
