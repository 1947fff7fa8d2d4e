/- The globals' facts that calls lean on (G); slices of strings; strings.Cut and text.Lines, text.Trim. -/
import Derived.Test.YtjbllanlfgbpkaaGreatDoorText1
namespace Go.Proofs.YtjbllanlfgbpkaaGreatDoor
open Go.RowKit

/-- What the calls read of package variables. -/
structure GF (w : World) : Prop where
  maxLen : ∃ m, w.cell? ⟨4, 0, none⟩ = some (.int .i64 m)
  utf8 : Lib.Utf8Tabs 0 1 w
/-- .. and that they lie below the heap's end, now as when they were laid -/
def G (w : World) : Prop := ∃ w0, GF w0 ∧ 10 ≤ w.heap.size ∧ ∀ k, k < 10 → w.heap[k]? = w0.heap[k]?
theorem G.of {w : World} (h : GF w) (hs : 10 ≤ w.heap.size) : G w := ⟨w, h, hs, fun _ _ => rfl⟩
theorem G.only {M : Nat → Prop} {w w' : World} (h : G w) (ho : Only M w w') (hM : ∀ k, k < 10 → ¬ M k) : G w' := by
  obtain ⟨w0, hf, hs, hk⟩ := h
  exact ⟨w0, hf, Nat.le_trans hs ho.size, fun k h => (ho.block k (by omega) (hM k h)).trans (hk k h)⟩
theorem G.ext {w w' : World} (h : G w) (ho : Ext w w') : G w' := h.only (M := fun _ => False) (Only.of_ext ho) (fun _ _ h => h)
theorem G.size {w : World} (h : G w) : 10 ≤ w.heap.size := by obtain ⟨_, _, hs, _⟩ := h; exact hs
theorem G.cell {w w0 : World} (hk : ∀ k, k < 10 → w.heap[k]? = w0.heap[k]?) {b o : Nat} (hp : b < 10) : w.cell? ⟨b, o, none⟩ = w0.cell? ⟨b, o, none⟩ := World.cell?_of_block (a := ⟨b, o, none⟩) (hk _ hp)
theorem G.maxLen {w : World} (h : G w) : ∃ m, w.cell? ⟨4, 0, none⟩ = some (.int .i64 m) := by
  obtain ⟨w0, hf, _, hk⟩ := h
  obtain ⟨m, hm⟩ := hf.maxLen
  exact ⟨m, (G.cell hk (by decide)).trans hm⟩
theorem G.utf8 {w : World} (h : G w) : Lib.Utf8Tabs 0 1 w := by
  obtain ⟨w0, hf, _, hk⟩ := h
  obtain ⟨h1, h2⟩ := hf.utf8
  exact ⟨fun c hc => (G.cell hk (by decide)).trans (h1 c hc), fun i hi => ⟨(G.cell hk (by decide)).trans (h2 i hi).1, (G.cell hk (by decide)).trans (h2 i hi).2⟩⟩
theorem G.drewN {w : World} (h : G w) (n : Nat) : G (w.drewN n) := h.ext (ext_drewN (Below.refl _ _) n)
theorem G.quiet {w w' : World} (h : G w) (hq : Quiet w w') : G w' := h.ext hq.ext

theorem cut_any (s sep : ByteArray) (w : World) (hG : G w) (hs : s.size ≤ 1000000000) :
    Calls Tryz.prog 42 #[.string s, .string sep] w fun e w' => e = .returned (.tuple #[str (Lib.cut s.data.toList sep.data.toList).1, str (Lib.cut s.data.toList sep.data.toList).2.1, .bool (Lib.cut s.data.toList sep.data.toList).2.2]) ∧ Quiet w w' := by
  obtain ⟨m, hm⟩ := hG.maxLen
  exact Any.strings_Cut Tryz.lays145 s sep m w (by omega) hm
theorem index_any (s sep : ByteArray) (w : World) (hG : G w) (hs : s.size ≤ 1000000000) :
    Calls Tryz.prog 134 #[.string s, .string sep] w fun e w' => e = .returned (.int .i64 (Lib.index s.data.toList sep.data.toList)) ∧ w' = w := by
  obtain ⟨m, hm⟩ := hG.maxLen
  exact Any.strings_Index Tryz.lays143 s sep m w (by omega) hm

/-- v reads as the list of strings l. -/
def StrsAt (w : World) (v : Value) (l : List Sp.Bs) : Prop :=
  (l = [] ∧ ∃ a c, v = .slice a 0 c) ∨ ∃ g o c, v = .slice (some ⟨g, o, none⟩) l.length c ∧ g < w.heap.size ∧ ∀ j x, l[j]? = some x → w.cell? ⟨g, o + j, none⟩ = some (str x)
theorem StrsAt.ext {w w' : World} {v : Value} {l : List Sp.Bs} (h : StrsAt w v l) (ho : Ext w w') : StrsAt w' v l := by
  rcases h with h | ⟨g, o, c, hv, hg, hc⟩
  · exact .inl h
  · exact .inr ⟨g, o, c, hv, Nat.lt_of_lt_of_le hg ho.size, fun j x hj => (ho.cell (p := ⟨g, o + j, none⟩) hg).trans (hc j x hj)⟩
/-- what a slice points at lies at or above B -/
def FromB (B : Nat) (v : Value) : Prop := ∀ a n c, v = .slice (some a) n c → B ≤ a.block
theorem FromB.of_own {w : World} {base : Nat} {v : Value} {n : Nat} {e : TypeId} {xs : List Value} (h : w.ownsRow base e 1 v n xs) : FromB base v := by
  intro a m c e
  rcases h.2 with ⟨rfl, h0⟩ | ⟨g, cap, cur, rfl, hb, hg, _⟩
  · cases e
  · cases e; exact hb
theorem StrsAt.of_own {w : World} {base : Nat} {v : Value} {n : Nat} {l : List Sp.Bs} (h : w.ownsRow base 9 1 v n (l.map str)) : StrsAt w v l := by
  have hn : l.length = n := by have := h.1; simpa using this
  subst hn
  rcases h.2 with ⟨rfl, h0⟩ | ⟨g, cap, cur, rfl, _, hg, _⟩
  · exact .inl ⟨List.eq_nil_of_length_eq_zero h0, none, 0, rfl⟩
  · refine .inr ⟨g, 0, cap, rfl, lt_of_block hg, fun j x hj => ?_⟩
    have := h.cells (g := g) rfl j (str x) (by rw [List.getElem?_map, hj]; rfl)
    rw [Nat.zero_add]
    have e1 : (Addr.add ⟨g, 0, none⟩ j) = ⟨g, j, none⟩ := by unfold Addr.add; split <;> simp_all
    rwa [e1] at this

theorem Tryz.info9 : (Tryz.prog.info? 9).map (fun i => (i.zero, i.size, i.bytes)) = some (some (.string ⟨#[]⟩), 1, 16) := by kernel_rfl
def strLen : Value → Nat | .string s => s.size | _ => 0

set_option maxHeartbeats 1000000 in
theorem lines_any (s : ByteArray) (w : World) (hG : G w) (hs : s.size ≤ 1000000000) :
    Calls Tryz.prog 14 #[.string s] w fun e w' => ∃ v, e = .returned v ∧ StrsAt w' v (Sp.lines s.data.toList) ∧ FromB w.heap.size v ∧ Ext w w' := by
  obtain ⟨i0, hi, hz0, hz1, hz2⟩ := info_parts Tryz.info9
  go_enter Tryz.func14, Tryz.ntmps14
  go_wp2
  go_loopw [0, 3] (fun r v wr => ∃ (rest : Sp.Bs) (acc : List Sp.Bs), r = str rest ∧ rest.length ≤ s.size ∧ acc.length + rest.length ≤ s.size ∧ wr.ownsRow w.heap.size 9 1 v acc.length (acc.map str) ∧ Sp.lines s.data.toList = acc ++ Sp.lines rest ∧ Ext w wr) (fun r _ _ => strLen r)
  case atStart => exact ⟨s.data.toList, [], rfl, by simp, by simp, World.ownsRow_nil _ _ _ _, by simp, Below.refl _ _⟩
  case round =>
    obtain ⟨rest, acc, rfl, hr, har, hown, hl, hE⟩ := hrel
    have HL := Lib.hid hl; clear hl
    by_cases hne : rest = []
    · subst hne
      have hfin := Lib.hid (show StrsAt wr _ (Sp.lines s.data.toList) from StrsAt.of_own (base := w.heap.size) (n := acc.length) (by rw [HL.out]; simpa [Sp.lines, Sp.splitLF] using hown))
      have hfb := Lib.hid (FromB.of_own hown)
      clear HL
      go_wp2
      go_ret
      exact ⟨_, rfl, hfin.out, hfb.out, hE⟩
    · have hb : (rest.isEmpty) = false := by simpa using hne
      have hGr := hG.ext hE
      have hcl := Sp.cut_len 10 rest
      have hcn := Sp.cut_none 10 rest
      have hpos : 0 < rest.length := List.length_pos_iff.2 hne
      have HC := Lib.hid (Sp.lines_cut rest hne)
      clear hne
      go_wp2_with fail
      refine (cut_any _ _ _ hGr (by simpa using (by omega))).mono ?_
      rintro e w2 ⟨rfl, hq⟩
      have hE2 := ext_trans hE hq.ext
      replace hown := ownsRow_only (M := fun _ => False) hown (Only.of_ext hq.ext) (fun _ _ h => h)
      clear hE hq hGr
      simp only [List.toList_toArray] at hcl hcn HC ⊢
      generalize Lib.cut rest [10] = ct at *
      obtain ⟨line, rest2, ended⟩ := ct
      simp only at hcl hcn HC ⊢
      have hlast : ∀ (ln : Sp.Bs), ln = Sp.lineOf (line, ended) → Hid (Sp.lines s.data.toList = (acc ++ [ln]) ++ Sp.lines rest2) := fun ln e => by
        rw [HL.out, HC.out, e]; unfold Hid; simp
      cases ended
      · have h2 := hcn rfl
        subst h2
        simp only [Bool.false_eq_true, if_false, List.length_nil] at hcl
        have HF := hlast line rfl
        clear hlast HL HC hb hcn
        go_wp2_with (at_builtin; refine wpList_app1 rfl _ _ 33 rfl w.heap.size 9 (.string ⟨#[]⟩) 16 Tryz.underlying33 Tryz.info9 rfl _ _ _ rfl hown (str line) rfl rfl ?c1 ?c2 ?c3 ?_)
        case c1 => omega
        case c2 => omega
        case c3 => exact hE2.size
        intro g cap w3 hown3 hO3 hN3
        have hE3 : Ext w w3 := hE2.trans (hO3.below hE2.size (fun k hk e => by have := (hown.lt k e.symm).1; omega))
        clear hown hO3 hN3 hE2
        go_wp2
        exact ⟨⟨[], acc ++ [line], rfl, by simp, by simp; omega, by simpa using hown3, HF.out, hE3⟩, by simp [strLen]; omega⟩
      · simp only [if_true] at hcl
        have HF := hlast (Lib.trimSuffix line [13]) rfl
        clear hlast HL HC hb hcn
        go_wp2_with fail
        refine (Tryz.strings_TrimSuffix _ _ _ (by simp; omega)).mono ?_
        rintro e w' ⟨rfl, rfl⟩
        go_wp2_with (at_builtin; refine wpList_app1 rfl _ _ 33 rfl w.heap.size 9 (.string ⟨#[]⟩) 16 Tryz.underlying33 Tryz.info9 rfl _ _ _ rfl hown (str (Lib.trimSuffix line [13])) rfl rfl ?c1 ?c2 ?c3 ?_)
        case c1 => omega
        case c2 => omega
        case c3 => exact hE2.size
        intro g cap w3 hown3 hO3 hN3
        have hE3 : Ext w w3 := hE2.trans (hO3.below hE2.size (fun k hk e => by have := (hown.lt k e.symm).1; omega))
        clear hown hO3 hN3 hE2
        go_wp2
        exact ⟨⟨rest2, acc ++ [(Lib.trimSuffix line [13])], rfl, by omega, by simp; omega, by simpa using hown3, HF.out, hE3⟩, by simp [strLen]; omega⟩

theorem drop_cons' (s : ByteArray) (j : Nat) (h : j < s.size) : s.data.toList.drop j = s[j] :: s.data.toList.drop (j + 1) := by
  rw [List.drop_eq_getElem_cons (by simpa using h)]; rfl

/-! ### Trim -/
theorem trim_at (s : ByteArray) (f u : Nat) (hfu : f ≤ u) (hu : u ≤ s.size) (hf : ∀ q, q < f → (h : q < s.size) → Sp.isWhite s[q] = true) (hl : ∀ q, u ≤ q → (h : q < s.size) → Sp.isWhite s[q] = true)
    (h1 : f < u → ∀ h : f < s.size, Sp.isWhite s[f] = false) (h2 : f < u → ∀ h : u - 1 < s.size, Sp.isWhite s[u - 1] = false) : Value.string (s.extract f u) = str (Sp.trim s.data.toList) := by
  have hlen : s.data.toList.length = s.size := by simp
  have hsplit : s.data.toList = s.data.toList.take f ++ (s.data.toList.drop f).take (u - f) ++ s.data.toList.drop u := by
    have e : s.data.toList.drop u = (s.data.toList.drop f).drop (u - f) := by rw [List.drop_drop]; congr 1; omega
    rw [List.append_assoc, e, List.take_append_drop, List.take_append_drop]
  have ht := Sp.trim_parts (s.data.toList.take f) ((s.data.toList.drop f).take (u - f)) (s.data.toList.drop u) (by
      intro c hc
      obtain ⟨i, hi, rfl⟩ := List.mem_iff_getElem.1 hc
      simp only [List.length_take, hlen] at hi
      simp only [List.getElem_take]
      exact hf i (by omega) (by omega)) (by
      intro c hc
      obtain ⟨i, hi, rfl⟩ := List.mem_iff_getElem.1 hc
      simp only [List.length_drop, hlen] at hi
      simp only [List.getElem_drop]
      exact hl (u + i) (by omega) (by omega)) (by
      intro c r e
      have hlt : f < u := by
        rcases Nat.lt_or_ge f u with h | h
        · exact h
        · rw [show u - f = 0 by omega] at e; simp at e
      have h0 : ((s.data.toList.drop f).take (u - f))[0]? = some c := by rw [e]; rfl
      rw [List.getElem?_take, if_pos (by omega), List.getElem?_drop, List.getElem?_eq_getElem (by rw [hlen]; omega)] at h0
      have := h1 hlt (by omega)
      simp only [Option.some.injEq] at h0
      rw [← h0]
      exact this) (by
      intro c r e
      have hlt : f < u := by
        rcases Nat.lt_or_ge f u with h | h
        · exact h
        · rw [show u - f = 0 by omega] at e; simp at e
      have hln := congrArg List.length e
      simp only [List.length_take, List.length_drop, hlen, List.length_append, List.length_cons, List.length_nil] at hln
      have h0 : ((s.data.toList.drop f).take (u - f))[r.length]? = some c := by rw [e]; simp
      rw [List.getElem?_take, if_pos (by omega), List.getElem?_drop, List.getElem?_eq_getElem (by rw [hlen]; omega)] at h0
      have := h2 hlt (by omega)
      simp only [Option.some.injEq] at h0
      rw [← h0]
      have e2 : f + r.length = u - 1 := by omega
      simp only [e2]
      exact this)
  rw [← hsplit] at ht
  rw [ht]
  simp only [str]
  congr 1
  apply ByteArray.ext
  apply Array.ext'
  simp [ByteArray.data_extract, Array.toList_extract, List.extract_eq_take_drop]

set_option maxHeartbeats 1000000 in
theorem trim_any (s : ByteArray) (w : World) (hs : s.size ≤ 1000000000) :
    Calls Tryz.prog 13 #[.string s] w fun e w' => e = .returned (str (Sp.trim s.data.toList)) ∧ w' = w := by
  go_enter Tryz.func13, Tryz.ntmps13
  go_wp2
  go_loop [3] (fun i => ∃ f : Nat, i = .int .i64 f ∧ f ≤ s.size ∧ Hid (∀ q, q < f → (h : q < s.size) → Sp.isWhite s[q] = true)) (fun i => s.size - (intOf i).toNat)
  case atStart => exact ⟨0, rfl, Nat.zero_le _, fun q h => absurd h (by omega)⟩
  case round =>
    obtain ⟨f, rfl, hf, hall⟩ := hrel
    by_cases hgo : ∃ h : f < s.size, Sp.isWhite s[f] = true
    · obtain ⟨hlt, hw⟩ := hgo
      go_wp2_with (go_at_call 41; refine (white_any _ _).mono ?_; rintro e w' ⟨rfl, rfl⟩)
      refine ⟨⟨f + 1, by go_num, hlt, ?_⟩, by simp [intOf]; omega⟩
      intro q h1 h'
      rcases Nat.lt_or_ge q f with h3 | h3
      · exact hall.out q h3 h'
      · obtain rfl : q = f := by omega
        exact hw
    · have hend : Hid (∀ h : f < s.size, Sp.isWhite s[f] = false) := by
        intro h
        cases hb : Sp.isWhite s[f] with
        | false => rfl
        | true => exact absurd ⟨h, hb⟩ hgo
      clear hgo
      by_cases hlt : f < s.size
      · have hwf := hend.out hlt
        go_wp2_with (go_at_call 41; refine (white_any _ _).mono ?_; rintro e w' ⟨rfl, rfl⟩)
        go_loop [4] (fun i => ∃ u : Nat, i = .int .i64 u ∧ f ≤ u ∧ u ≤ s.size ∧ Hid (∀ q, u ≤ q → (h : q < s.size) → Sp.isWhite s[q] = true)) (fun i => (intOf i).toNat)
        case atStart => exact ⟨s.size, rfl, hf, Nat.le_refl _, fun q h h' => absurd h (by omega)⟩
        case round =>
          obtain ⟨u, rfl, hfu, hu, hal2⟩ := hrel
          by_cases hlu : f < u
          · obtain ⟨m, rfl⟩ : ∃ m, u = m + 1 := ⟨u - 1, by omega⟩
            have hm : m < s.size := by omega
            have hc1 : ((m + 1 : Nat) : Int) = (m : Int) + 1 := by omega
            rw [hc1]
            by_cases hwm : Sp.isWhite s[m] = true
            · go_wp2_with (go_at_call 41; refine (white_any _ _).mono ?_; rintro e w' ⟨rfl, rfl⟩)
              refine ⟨⟨m, rfl, by omega, by omega, ?_⟩, by simp [intOf]⟩
              intro q h1 h'
              rcases Nat.lt_or_ge m q with h3 | h3
              · exact hal2.out q h3 h'
              · obtain rfl : q = m := by omega
                exact hwm
            · have hwf2 : Sp.isWhite s[m] = false := by simpa using hwm
              have hfin := Lib.hid (trim_at s f (m + 1) hfu hu hall.out hal2.out (fun _ => hend.out) (fun _ _ => by simpa using hwf2))
              go_wp2_with (go_at_call 41; refine (white_any _ _).mono ?_; rintro e w' ⟨rfl, rfl⟩)
              go_ret
              exact ⟨by rw [← hfin.out]; rfl, rfl⟩
          · obtain rfl : f = u := by omega
            have hfin := Lib.hid (trim_at s f f hfu hu hall.out hal2.out (fun h => absurd h (by omega)) (fun h => absurd h (by omega)))
            rw [show s.extract f f = ByteArray.empty from ByteArray.ext (by simp)] at hfin
            go_wp2
            go_ret
            exact ⟨by rw [← hfin.out]; rfl, rfl⟩
      · go_wp2
        go_loop [4] (fun i => ∃ u : Nat, i = .int .i64 u ∧ f ≤ u ∧ u ≤ s.size ∧ Hid (∀ q, u ≤ q → (h : q < s.size) → Sp.isWhite s[q] = true)) (fun i => (intOf i).toNat)
        case atStart => exact ⟨s.size, rfl, hf, Nat.le_refl _, fun q h h' => absurd h (by omega)⟩
        case round =>
          obtain ⟨u, rfl, hfu, hu, hal2⟩ := hrel
          by_cases hlu : f < u
          · exfalso; omega
          · obtain rfl : f = u := by omega
            have hfin := Lib.hid (trim_at s f f hfu hu hall.out hal2.out (fun h => absurd h (by omega)) (fun h => absurd h (by omega)))
            rw [show s.extract f f = ByteArray.empty from ByteArray.ext (by simp)] at hfin
            go_wp2
            go_ret
            exact ⟨by rw [← hfin.out]; rfl, rfl⟩

end Go.Proofs.YtjbllanlfgbpkaaGreatDoor
