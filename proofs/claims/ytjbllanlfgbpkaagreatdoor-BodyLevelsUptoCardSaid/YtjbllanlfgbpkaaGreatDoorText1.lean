/- Walks of package text: bytes, Lower, Same, Trim. -/
import Derived.Test.YtjbllanlfgbpkaaGreatDoorMem
import Derived.WalkKit
import Derived.WalkSpells
import Derived.WalkLawsBesides
import Derived.Lib.Hide
import Derived.Deep.QuietTactic
import Derived.BigQuiet
namespace Go.Proofs.YtjbllanlfgbpkaaGreatDoor
open Go.RowKit

theorem isWhite_int (c : UInt8) : Sp.isWhite c = ((c.toNat : Int) == 9 || (c.toNat : Int) == 10 || (c.toNat : Int) == 13 || (c.toNat : Int) == 32) := by
  have := Sp.byte_all (fun c => Sp.isWhite c == ((c.toNat : Int) == 9 || (c.toNat : Int) == 10 || (c.toNat : Int) == 13 || (c.toNat : Int) == 32)) (by decide +kernel) c
  simpa using this

set_option maxHeartbeats 400000 in
theorem white_any (c : UInt8) (w : World) :
    Calls Tryz.prog 41 #[.int .u8 c.toNat] w fun e w' => e = .returned (.bool (Sp.isWhite c)) ∧ w' = w := by
  rw [isWhite_int]
  have hb : c.toNat < 256 := c.toNat_lt
  generalize (c.toNat : Int) = n
  by_cases h1 : n = 9
  · subst h1; go_enter Tryz.func41, Tryz.ntmps41; go_wp2; go_ret; exact ⟨rfl, rfl⟩
  have e1 : (n == 9) = false := by simpa using h1
  by_cases h2 : n = 10
  · subst h2; go_enter Tryz.func41, Tryz.ntmps41; go_wp2; go_ret; exact ⟨rfl, rfl⟩
  have e2 : (n == 10) = false := by simpa using h2
  by_cases h3 : n = 13
  · subst h3; go_enter Tryz.func41, Tryz.ntmps41; go_wp2; go_ret; exact ⟨rfl, rfl⟩
  have e3 : (n == 13) = false := by simpa using h3
  go_enter Tryz.func41, Tryz.ntmps41
  go_wp2
  go_ret
  exact ⟨by simp [e1, e2, e3], rfl⟩

theorem lower_int (c : UInt8) : ((Sp.lower c).toNat : Int) = if 65 ≤ (c.toNat : Int) ∧ (c.toNat : Int) ≤ 90 then (c.toNat : Int) + 32 else c.toNat := by
  have := Sp.byte_all (fun c => ((Sp.lower c).toNat : Int) == if 65 ≤ (c.toNat : Int) ∧ (c.toNat : Int) ≤ 90 then (c.toNat : Int) + 32 else c.toNat) (by decide +kernel) c
  simpa using this

set_option maxHeartbeats 400000 in
theorem lower_any (c : UInt8) (w : World) :
    Calls Tryz.prog 114 #[.int .u8 c.toNat] w fun e w' => e = .returned (.int .u8 (Sp.lower c).toNat) ∧ w' = w := by
  rw [lower_int]
  have hb : c.toNat < 256 := c.toNat_lt
  go_enter Tryz.func114, Tryz.ntmps114
  go_wp2
  all_goals
    go_ret
    exact ⟨ret_int rfl, rfl⟩


/-- two strings of one length whose first k bytes agree but for case -/
def SameTo (a b : ByteArray) (k : Nat) : Prop := (a.data.toList.take k).map Sp.lower = (b.data.toList.take k).map Sp.lower

theorem take_snoc (s : ByteArray) (k : Nat) (h : k < s.size) : s.data.toList.take (k + 1) = s.data.toList.take k ++ [s[k]] := by
  rw [List.take_succ_eq_append_getElem (by simpa using h)]; rfl
theorem sameTo_succ {a b : ByteArray} {k : Nat} (ha : k < a.size) (hb : k < b.size) (h : SameTo a b k) (he : Sp.lower a[k] = Sp.lower b[k]) : SameTo a b (k + 1) := by
  unfold SameTo at *
  rw [take_snoc a k ha, take_snoc b k hb, List.map_append, List.map_append, h]
  simp [he]
theorem same_of_to {a b : ByteArray} (hs : a.size = b.size) (h : SameTo a b a.size) : Sp.same a.data.toList b.data.toList = true := by
  unfold SameTo at h
  rw [List.take_of_length_le (by simp), hs, List.take_of_length_le (by simp)] at h
  simp [Sp.same, Sp.lowerL, h]
theorem same_len {a b : ByteArray} (h : ¬ a.size = b.size) : Sp.same a.data.toList b.data.toList = false := by
  simp only [Sp.same, Sp.lowerL, beq_eq_false_iff_ne, ne_eq]
  intro e
  have := congrArg List.length e
  simp at this
  exact h this
theorem same_at {a b : ByteArray} {k : Nat} (ha : k < a.size) (hb : k < b.size) (he : ¬ Sp.lower a[k] = Sp.lower b[k]) : Sp.same a.data.toList b.data.toList = false := by
  simp only [Sp.same, Sp.lowerL, beq_eq_false_iff_ne, ne_eq]
  intro e
  apply he
  have h1 : (a.data.toList.map Sp.lower)[k]? = some (Sp.lower a[k]) := by
    rw [List.getElem?_map, List.getElem?_eq_getElem (by simpa using ha)]; rfl
  have h2 : (b.data.toList.map Sp.lower)[k]? = some (Sp.lower b[k]) := by
    rw [List.getElem?_map, List.getElem?_eq_getElem (by simpa using hb)]; rfl
  rw [e, h2] at h1
  exact (Option.some.inj h1).symm

set_option maxHeartbeats 400000 in
theorem same_any (a b : ByteArray) (w : World) (hs : a.size ≤ 1000000000) :
    Calls Tryz.prog 63 #[.string a, .string b] w fun e w' => e = .returned (.bool (Sp.same a.data.toList b.data.toList)) ∧ Quiet w w' := by
  by_cases hl : a.size = b.size
  case neg =>
    have hlb : ((a.size : Int) != (b.size : Int)) = true := by rw [bne_iff_ne]; omega
    rw [same_len hl]
    go_enter Tryz.func63, Tryz.ntmps63
    go_wp2
    go_ret
    exact ⟨rfl, Quiet.refl w⟩
  have hlb : ((a.size : Int) != (b.size : Int)) = false := by rw [hl]; simp
  have HL := Lib.hid hl; clear hl
  go_enter Tryz.func63, Tryz.ntmps63
  go_wp2
  clear hlb
  go_loopw [13] (fun i wr => ∃ k : Nat, k ≤ a.size ∧ i = .int .i64 k ∧ SameTo a b k ∧ Quiet w wr) (fun i _ => a.size - (intOf i).toNat)
  case atStart => exact ⟨0, Nat.zero_le _, rfl, rfl, Quiet.refl w⟩
  case round =>
    obtain ⟨k, hk, rfl, hto, hq⟩ := hrel
    by_cases hlt : k < a.size
    · have hltb : k < b.size := by have := HL.out; omega
      by_cases he : Sp.lower a[k] = Sp.lower b[k]
      · have hsucc := Lib.hid (sameTo_succ hlt hltb hto he); clear hto
        have heb : (((Sp.lower a[k]).toNat : Int) != ((Sp.lower b[k]).toNat : Int)) = false := by rw [he]; simp
        clear he
        go_wp2
        go_quiet ((go_at_call 114; exact Calls.quiet_of_same (lower_any _ _)))
        go_wp2
        exact ⟨⟨k + 1, hlt, by go_num, hsucc.out, hq.drewN _⟩, by simp [intOf]; omega⟩
      · have hno := Lib.hid (same_at hlt hltb he); clear hto
        have heb : (((Sp.lower a[k]).toNat : Int) != ((Sp.lower b[k]).toNat : Int)) = true := by
          rw [bne_iff_ne]
          intro e
          exact he (UInt8.toNat_inj.1 (by omega))
        clear he
        go_wp2
        go_quiet ((go_at_call 114; exact Calls.quiet_of_same (lower_any _ _)))
        go_wp2
        go_ret
        exact ⟨by rw [hno.out]; rfl, hq.drewN _⟩
    · have hke : k = a.size := by omega
      have HT : Hid (SameTo a b a.size) := by rw [← hke]; exact hto
      clear hto hke
      go_wp2
      go_ret
      exact ⟨by rw [same_of_to HL.out HT.out]; rfl, hq⟩

/-! ### Lower -/
theorem map_take_succ (f : UInt8 → UInt8) (s : ByteArray) (k : Nat) (h : k < s.size) : (s.data.toList.take (k + 1)).map f = (s.data.toList.take k).map f ++ [f s[k]] := by
  rw [take_snoc s k h, List.map_append]; rfl

theorem cellsOf_append (a b : Sp.Bs) : cellsOf (a ++ b) = cellsOf a ++ cellsOf b := Lib.byteCells_append a b
@[simp] theorem cellsOf_length (a : Sp.Bs) : (cellsOf a).length = a.length := Lib.byteCells_length a

theorem take_set_succ {α : Type} (xs : List α) (k : Nat) (u : α) (h : k < xs.length) : (xs.set k u).take (k + 1) = xs.take k ++ [u] := by
  rw [List.take_succ_eq_append_getElem (by simpa using h)]
  simp [List.take_set_of_le]

/-- the row of a slice of bytes that the call owns, in full -/
theorem ownsRow_full {w : World} {base e n cap : Nat} {g : Nat} {xs : List Value} (h : w.ownsRow base e 1 (.slice (some ⟨g, 0, none⟩) n cap) n xs) : xs.length = n := by
  have := h.1; omega

theorem convert_owned {w : World} {base e n cap g : Nat} {xs : List Value} {l : Sp.Bs} {src dst : TypeId} (hs : Tryz.prog.underlying src = some (.slice e)) (he : Tryz.prog.underlying e = some (.int .u8)) (hd : Tryz.prog.underlying dst = some .string)
    (h : w.ownsRow base e 1 (.slice (some ⟨g, 0, none⟩) n cap) n xs) (hx : xs = cellsOf l) :
    (convert src dst (.slice (some ⟨g, 0, none⟩) n cap)).run Tryz.prog w = .ok (str l) w := by
  have hn : l.length = n := by have := ownsRow_full h; rw [hx] at this; simpa using this
  subst hn
  refine run_convert_bytes_back w src dst e ⟨g, 0, none⟩ cap l hs he hd ?_
  intro j hj
  have e1 : (Addr.add ⟨g, 0, none⟩ j) = ⟨g, j, none⟩ := by unfold Addr.add; split <;> simp_all
  rw [e1, h.cellAt j (by omega), hx]
  simp [Lib.byteCells, hj]

set_option maxHeartbeats 400000 in
theorem mapped_lower_any (s : ByteArray) (w : World) (hs : s.size ≤ 1000000000) :
    Calls Tryz.prog 135 #[.string s, .func (.func 114) #[] #[]] w fun e w' => e = .returned (str (Sp.lowerL s.data.toList)) ∧ Ext w w' := by
  obtain ⟨i0, hi, hz0, hz1, hz2⟩ := info_parts Tryz.info5
  go_enter Tryz.func135, Tryz.ntmps135
  go_wp2_with (refine wpList_make_full _ rfl _ _ 52 rfl w.heap.size 5 i0 (.int .u8 0) 1 Tryz.underlying52 hi hz0 hz1 .i64 .i64 _ _ s.size rfl rfl rfl rfl ?c1 ?c2 ?c3 ?_)
  case c1 => rw [hz2]; omega
  case c2 => unfold maxLen; omega
  case c3 => exact Nat.le_refl _
  intro w1 hown hgrow
  clear hi hz0 hz1 hz2
  have hB : Ext w w1 := (Below.refl _ w).grown hgrow (Nat.le_refl _) (by simp)
  clear hgrow
  go_wp2
  go_loopw [12] (fun i wr => ∃ (k : Nat) (xs : List Value), k ≤ s.size ∧ i = .int .i64 k ∧ wr.ownsRow w.heap.size 5 1 (.slice (some ⟨w.heap.size, 0, none⟩) s.size s.size) s.size xs ∧ xs.take k = cellsOf (Sp.lowerL (s.data.toList.take k)) ∧ Ext w wr) (fun i _ => s.size - (intOf i).toNat)
  case atStart => exact ⟨0, _, Nat.zero_le _, rfl, hown, rfl, hB⟩
  case round =>
    clear hown hB
    obtain ⟨k, xs, hk, rfl, hown, htake, hB⟩ := hrel
    have HX := Lib.hid htake; clear htake
    by_cases hlt : k < s.size
    · have HL := Lib.hid (ownsRow_full hown)
      obtain ⟨x, hx⟩ : ∃ x, xs[k]? = some x := ⟨_, List.getElem?_eq_getElem (by have := HL.out; omega)⟩
      have hc : wr.cell? ⟨w.heap.size, k, none⟩ = some x := by rw [hown.cellAt k (by omega)]; exact hx
      clear hx
      have hf := hown.frozenAt k
      have hst := Lib.hid (hown.stored k (.int .u8 (Sp.lower s[k]).toNat))
      go_wp2_with (go_at_call 114; refine (lower_any _ _).mono ?_; rintro e w' ⟨rfl, rfl⟩)
      obtain ⟨hown2, hg2⟩ := hst.out
      refine ⟨⟨k + 1, _, hlt, by go_num, hown2, ?_, hB.grown hg2 hB.size (fun k e => by cases e; exact Nat.le_refl _)⟩, by simp [intOf]; omega⟩
      rw [take_set_succ _ _ _ (by have := HL.out; omega), HX.out]; unfold Sp.lowerL; rw [map_take_succ Sp.lower s k hlt, cellsOf_append]
      rfl
    · have hke : k = s.size := by omega
      have hfull : xs = cellsOf (Sp.lowerL s.data.toList) := by
        have h1 := HX.out
        have h2 := ownsRow_full hown
        rw [hke, List.take_of_length_le (by omega), List.take_of_length_le (by simp)] at h1
        exact h1
      have kc := convert_owned (src := 52) (dst := 9) Tryz.underlying52 Tryz.underlying5 Tryz.underlying9 hown hfull
      clear hke hfull HX
      go_wp2
      go_ret
      exact ⟨rfl, hB⟩

theorem lowerB_any (s : ByteArray) (w : World) (hs : s.size ≤ 1000000000) :
    Calls Tryz.prog 79 #[.string s] w fun e w' => e = .returned (str (Sp.lowerL s.data.toList)) ∧ Ext w w' := by
  go_enter Tryz.func79, Tryz.ntmps79
  go_wp2_with (go_at_call 135; refine (mapped_lower_any _ _ hs).mono ?_; rintro e w' ⟨rfl, hB⟩)
  go_ret
  exact ⟨rfl, hB⟩

end Go.Proofs.YtjbllanlfgbpkaaGreatDoor
