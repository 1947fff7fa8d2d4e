/- body: entities, entity (the named ones) -/
import Derived.Test.YtjbllanlfgbpkaaGreatDoorTag
import Derived.Maps.OwnSet
import Derived.Maps.StringElems
import Derived.Lib.IndexLaws
namespace Go.Proofs.YtjbllanlfgbpkaaGreatDoor
open Go.RowKit

theorem str_key {k : ByteArray} (h : k.size ≤ maxLen) : keyOf Tryz.prog 9 (.string k) = some (.string k.data.toList) := by
  rw [keyOf_string Tryz.underlying9]
  unfold mapKey
  rw [Tryz.underlying9]
  simp [h]
noncomputable def strR : Value → Option (DataW Unit × List MemPlace) := plainElem Tryz.prog 9
theorem strR_mk {s : ByteArray} (hs : s.size ≤ maxLen) : strR (.string s) = some (.lit (.string s.data.toList), []) := plainElem_string Tryz.underlying9 hs

def Sp.named (k : Sp.Bs) : Option Sp.Bs :=
  if ([38, 97, 109, 112, 59] : Sp.Bs) == k then some [38] else
  if ([38, 97, 112, 111, 115, 59] : Sp.Bs) == k then some [39] else
  if ([38, 103, 116, 59] : Sp.Bs) == k then some [62] else
  if ([38, 108, 116, 59] : Sp.Bs) == k then some [60] else
  if ([38, 110, 98, 115, 112, 59] : Sp.Bs) == k then some [32] else
  if ([38, 113, 117, 111, 116, 59] : Sp.Bs) == k then some [34] else none

def namedD : DataW Unit := .map [(.string [38, 97, 109, 112, 59], .lit (.string [38])), (.string [38, 97, 112, 111, 115, 59], .lit (.string [39])), (.string [38, 103, 116, 59], .lit (.string [62])), (.string [38, 108, 116, 59], .lit (.string [60])), (.string [38, 110, 98, 115, 112, 59], .lit (.string [32])), (.string [38, 113, 117, 111, 116, 59], .lit (.string [34]))]
theorem named_has (k : Sp.Bs) : Maps.has namedD (.string k) = (Sp.named k).isSome := by
  unfold namedD Sp.named
  rw [Maps.has_eq]
  simp only [List.any_cons, List.any_nil, Lit.sameKey]
  generalize (([38, 97, 109, 112, 59] : Sp.Bs) == k) = b0
  generalize (([38, 97, 112, 111, 115, 59] : Sp.Bs) == k) = b1
  generalize (([38, 103, 116, 59] : Sp.Bs) == k) = b2
  generalize (([38, 108, 116, 59] : Sp.Bs) == k) = b3
  generalize (([38, 110, 98, 115, 112, 59] : Sp.Bs) == k) = b4
  generalize (([38, 113, 117, 111, 116, 59] : Sp.Bs) == k) = b5
  revert b0 b1 b2 b3 b4 b5
  decide
theorem named_at (k : Sp.Bs) : namedD.atKey (.string k) (.lit (.string [])) = .lit (.string ((Sp.named k).getD [])) := by
  unfold namedD Sp.named DataW.atKey
  simp only [List.find?, Lit.sameKey]
  generalize (([38, 97, 109, 112, 59] : Sp.Bs) == k) = b0
  generalize (([38, 97, 112, 111, 115, 59] : Sp.Bs) == k) = b1
  generalize (([38, 103, 116, 59] : Sp.Bs) == k) = b2
  generalize (([38, 108, 116, 59] : Sp.Bs) == k) = b3
  generalize (([38, 110, 98, 115, 112, 59] : Sp.Bs) == k) = b4
  generalize (([38, 113, 117, 111, 116, 59] : Sp.Bs) == k) = b5
  cases b0 <;> cases b1 <;> cases b2 <;> cases b3 <;> cases b4 <;> cases b5 <;> rfl
/-- The map of the entities lies in block b. -/
def Named (w : World) (b : Nat) : Prop := w.ownsMap Tryz.prog 9 strR b 6 namedD
theorem Named.kept {w w' : World} {b : Nat} (h : Named w b) (hb : w'.heap[b]? = w.heap[b]?) : Named w' b := by
  obtain ⟨es, clock, e, r⟩ := h
  exact ⟨es, clock, hb.trans e, r⟩
theorem Named.lt {w : World} {b : Nat} (h : Named w b) : b < w.heap.size := World.ownsMap.lt h
theorem Named.ext {w w' : World} {b : Nat} (h : Named w b) (hx : Ext w w') : Named w' b := h.kept (hx.block b h.lt)

set_option maxRecDepth 10000 in
set_option maxHeartbeats 1000000 in
theorem entities_any (w : World) :
    Calls Tryz.prog 35 #[] w fun e w' => ∃ b, e = .returned (.map (some b)) ∧ Named w' b ∧ w.heap.size ≤ b ∧ Ext w w' := by
  have hmm := @run_makeMap Tryz.prog
  have step : ∀ (w0 : World) (n : Nat) (D : DataW Unit) (k v : ByteArray), w0.ownsMap Tryz.prog 9 strR w.heap.size n D → n < 6 → k.size ≤ maxLen → v.size ≤ maxLen →
      ∃ w1, (Instr.mapUpdate 63 (.map (some w.heap.size)) (.string k) (.string v)).run Tryz.prog w0 = .ok () w1 ∧ w1.ownsMap Tryz.prog 9 strR w.heap.size (n + 1) (D.put (.string k.data.toList) (.lit (.string v.data.toList))) ∧ w0.grownBy w1 (some w.heap.size) := by
    intro w0 n D k v h hn hk hv
    exact h.update (Maps.string_keyed Tryz.underlying9) Tryz.underlying63 (by unfold maxLen; omega) (str_key hk) (strR_mk hv)
  have hx0 : Ext w (w.alloc (.map #[] 0)) := ext_alloc (Below.refl _ _) _
  have hgrow : ∀ w0 w1 : World, Ext w w0 → w0.grownBy w1 (some w.heap.size) → Ext w w1 := by
    intro w0 w1 hx hg
    exact hx.grown hg hx.size (fun k e => by cases e; exact Nat.le_refl _)
  obtain ⟨w1, r1, o1, g1⟩ := step _ 0 _ ⟨#[38, 108, 116, 59]⟩ ⟨#[60]⟩ (World.ownsMap_made w Tryz.prog 9 strR) (by decide) (by decide) (by decide)
  obtain ⟨w2, r2, o2, g2⟩ := step _ _ _ ⟨#[38, 103, 116, 59]⟩ ⟨#[62]⟩ o1 (by decide) (by decide) (by decide)
  obtain ⟨w3, r3, o3, g3⟩ := step _ _ _ ⟨#[38, 97, 109, 112, 59]⟩ ⟨#[38]⟩ o2 (by decide) (by decide) (by decide)
  obtain ⟨w4, r4, o4, g4⟩ := step _ _ _ ⟨#[38, 113, 117, 111, 116, 59]⟩ ⟨#[34]⟩ o3 (by decide) (by decide) (by decide)
  obtain ⟨w5, r5, o5, g5⟩ := step _ _ _ ⟨#[38, 97, 112, 111, 115, 59]⟩ ⟨#[39]⟩ o4 (by decide) (by decide) (by decide)
  obtain ⟨w6, r6, o6, g6⟩ := step _ _ _ ⟨#[38, 110, 98, 115, 112, 59]⟩ ⟨#[32]⟩ o5 (by decide) (by decide) (by decide)
  have hfin : Named w6 w.heap.size := o6
  have hx6 := hgrow _ _ (hgrow _ _ (hgrow _ _ (hgrow _ _ (hgrow _ _ (hgrow _ _ hx0 g1) g2) g3) g4) g5) g6
  clear step o1 o2 o3 o4 o5 o6 g1 g2 g3 g4 g5 g6 hgrow hx0
  go_enter Tryz.func35, Tryz.ntmps35
  go_wp2_with fail
  go_ret
  exact ⟨_, rfl, hfin, Nat.le_refl _, hx6⟩

theorem Named.look {w : World} {b : Nat} (h : Named w b) {k : ByteArray} (hk : k.size ≤ maxLen) :
    (Instr.lookup 63 (.map (some b)) (.string k) true).run Tryz.prog w = .ok (.tuple #[str ((Sp.named k.data.toList).getD []), .bool (Sp.named k.data.toList).isSome]) w := by
  obtain ⟨v, ps, hrun, hv⟩ := World.ownsMap.look_ok h (Maps.string_keyed Tryz.underlying9) Tryz.underlying63 (Tryz.zeroValue9 w) (strR_mk (by decide)) (str_key hk)
  rw [named_at] at hv
  obtain ⟨x, rfl, hx, _⟩ := plainElem_string_inv Tryz.underlying9 hv
  rw [named_has] at hrun
  rw [hrun]
  have e : x.data.toList = (Sp.named k.data.toList).getD [] := by
    have := congrArg Prod.fst hx
    simp only [DataW.lit.injEq, Lit.string.injEq] at this
    exact this.symm
  rw [← e]

/-- body.entity, but for the numeric ones -/
def Sp.ent (t : Sp.Bs) : Option (Nat × Sp.Bs) :=
  if t.head? = some 38 then
    if Lib.indexByte (t.take 10) 59 < 0 then some (0, [])
    else match Sp.named (t.take ((Lib.indexByte (t.take 10) 59).toNat + 1)) with
      | some c => some ((Lib.indexByte (t.take 10) 59).toNat + 1, c)
      | none => none
  else some (0, [])

theorem Sp.named_len (k c : Sp.Bs) (h : Sp.named k = some c) : c.length = 1 := by
  unfold Sp.named at h
  repeat' (split at h; (first | (cases h; rfl) | skip))
  cases h
theorem Sp.ent_len (t : Sp.Bs) (n : Nat) (c : Sp.Bs) (h : Sp.ent t = some (n, c)) : c.length ≤ n ∧ n ≤ t.length := by
  unfold Sp.ent at h
  split at h
  · split at h
    · cases h; exact ⟨Nat.le_refl _, Nat.zero_le _⟩
    · rename_i h1
      split at h
      · rename_i hn
        cases h
        have h2 := Lib.indexByte_ge (t.take 10) 59
        obtain ⟨o, ho⟩ : ∃ o : Nat, Lib.indexByte (t.take 10) 59 = o := ⟨(Lib.indexByte (t.take 10) 59).toNat, by omega⟩
        have hr := (Lib.indexByte_some ho).1
        have hr := (List.getElem?_eq_some_iff.1 hr).1
        rw [List.length_take] at hr
        have := Sp.named_len _ _ hn
        omega
      · cases h
  · cases h; exact ⟨Nat.le_refl _, Nat.zero_le _⟩

set_option maxRecDepth 100000 in
set_option maxHeartbeats 1000000 in
theorem entity_any (s : ByteArray) (b n : Nat) (c : Sp.Bs) (w : World) (hb : Named w b) (hs : s.size ≤ 1000000000) (h : Sp.ent s.data.toList = some (n, c)) :
    Calls Tryz.prog 39 #[.string s, .map (some b)] w fun e w' => e = .returned (.tuple #[.int .i64 n, str c]) ∧ w' = w := by
  unfold Sp.ent at h
  by_cases h0 : 0 < s.size
  case neg =>
    have he : s.data.toList = [] := List.length_eq_zero_iff.1 (by rw [Array.length_toList, ByteArray.size_data]; omega)
    rw [he] at h
    simp at h
    obtain ⟨rfl, rfl⟩ := h
    have hbe : (s.toList == []) = true := by rw [ByteArray.toList_eq, he]; rfl
    clear he
    go_enter Tryz.func39, Tryz.ntmps39
    go_wp2_with fail
    go_ret2
    exact ⟨rfl, rfl⟩
  have hcons := drop_cons' s 0 h0
  rw [List.drop_zero] at hcons
  have hbe : (s.toList == []) = false := by rw [ByteArray.toList_eq, hcons]; rfl
  by_cases h38 : s[0] = 38
  case neg =>
    rw [hcons, List.head?_cons, if_neg (by simpa using h38)] at h
    cases h
    have hb1 : ((s[0].toNat : Int) != 38) = true := byte_ne h38
    clear hcons h38
    go_enter Tryz.func39, Tryz.ntmps39
    go_wp2_with fail
    go_ret2
    exact ⟨rfl, rfl⟩
  have hb1 : ((s[0].toNat : Int) != 38) = false := by rw [h38]; rfl
  rw [if_pos (by rw [hcons, h38]; rfl)] at h
  have hx : ∀ m : Nat, (s.extract 0 m).data.toList = s.data.toList.take m := by
    intro m
    rw [extract_list, List.drop_zero, Nat.sub_zero]
  have hmin : Hid (s.data.toList.take 10 = s.data.toList.take (min s.size 10)) := by
    unfold Hid
    by_cases hm : s.size ≤ 10
    · rw [Nat.min_eq_left hm, List.take_of_length_le (by simp; exact hm), List.take_of_length_le (by simp)]
    · rw [Nat.min_eq_right (by omega)]
  have HX := Lib.hid hx
  have H := Lib.hid h
  clear h hcons h38 hx
  go_enter Tryz.func39, Tryz.ntmps39
  go_wp2_with fail
  refine (Tryz.strings_IndexByte _ _ _).mono ?_
  rintro e w' ⟨rfl, rfl⟩
  rw [show (min (s.size : Int) 10).toNat = min s.size 10 by omega, HX.out, show (59 : Int).toNat.toUInt8 = 59 from rfl, ← hmin.out]
  clear hmin
  have hge := Lib.indexByte_ge (s.data.toList.take 10) 59
  have hsm := fun o => @Lib.indexByte_some (s.data.toList.take 10) 59 o
  generalize Lib.indexByte (s.data.toList.take 10) 59 = i at *
  by_cases hi : i < 0
  · have H2 := H.out
    rw [if_pos hi] at H2
    cases H2
    go_wp2_with fail
    go_ret2
    exact ⟨rfl, rfl⟩
  · have H2 := H.out
    obtain ⟨o, rfl⟩ : ∃ o : Nat, i = o := ⟨i.toNat, by omega⟩
    have hro := (List.getElem?_eq_some_iff.1 (hsm o rfl).1).1
    rw [List.length_take, Array.length_toList, ByteArray.size_data] at hro
    rw [if_neg hi, Int.toNat_natCast] at H2
    clear hsm H
    have HK := Lib.hid (hb.look (k := s.extract 0 (o + 1)) (by simp; unfold maxLen; omega))
    cases hn : Sp.named (s.data.toList.take (o + 1)) with
    | none => rw [hn] at H2; cases H2
    | some c' =>
      rw [hn] at H2
      cases H2
      have hk := HK.out
      rw [HX.out, hn] at hk
      clear hn HK HX
      go_wp2_with fail
      go_ret2
      exact ⟨rfl, rfl⟩

end Go.Proofs.YtjbllanlfgbpkaaGreatDoor
