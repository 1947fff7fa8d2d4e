/- body.parts; a variable of strings that a range's rounds append to -/
import Derived.Test.YtjbllanlfgbpkaaGreatDoorParts3
namespace Go.Proofs.YtjbllanlfgbpkaaGreatDoor
open Go.RowKit

theorem parts_any (v0 v1 v2 v3 v4 : Value) (gc : Fn) (r lc : Array Value) (w : World) :
    Calls Tryz.prog 55 #[.agg #[v0, v1, v2, v3, v4], .func gc r lc] w fun e w' => e = .returned (.func (.func 102) #[] #[.pointer (some ⟨w.heap.size + 1, 0, none⟩), .pointer (some ⟨w.heap.size, 0, none⟩)]) ∧
      w' = (w.alloc (.cells #[v0, v1, v2, v3, v4] 26)).alloc (.cells #[.func gc r lc] 46) := by
  go_enter Tryz.func55, Tryz.ntmps55
  go_wp2
  go_ret
  exact ⟨rfl, rfl⟩

/-- the variable b holds the strings ot; the iterator relies on T -/
def TS (w : World) (b : Nat) (ot : List Sp.Bs) (T : BSet) (W : World) : Prop :=
  ∃ sv, W.heap[b]? = some (.cells #[sv] 33 (0, 0)) ∧ W.ownsRow w.heap.size 9 1 sv ot.length (ot.map str) ∧ ¬ T b ∧ (∀ g, sv.ownBlock = some g → ¬ T g ∧ g ≠ b) ∧
    Ext w W ∧ (∀ k, T k → k < W.heap.size) ∧ w.heap.size ≤ b
theorem TS.wext {w : World} {b : Nat} {ot : List Sp.Bs} {T : BSet} {W : World} (h : TS w b ot T W) : Ext w W := by obtain ⟨_, _, _, _, _, hE, _⟩ := h; exact hE
theorem TS.move {w : World} {b : Nat} {ot : List Sp.Bs} {T T' : BSet} {W W' : World} (h : TS w b ot T W) (hO : Only T W W') (hE : Ext w W') (hT : ∀ b, T' b → T b ∨ (W.heap.size ≤ b ∧ b < W'.heap.size)) : TS w b ot T' W' := by
  obtain ⟨sv, h2, hown, t2, hs, _, hTs, hws⟩ := h
  have l2 := lt_of_block h2
  have far : ∀ b, ¬ T b → b < W.heap.size → ¬ T' b := fun b hb hlt hT' => (hT b hT').elim hb (fun h => by omega)
  refine ⟨sv, (hO.block _ l2 t2).trans h2, ownsRow_only hown hO (fun g hg => (hs g hg).1), far _ t2 l2, ?_, hE, ?_, hws⟩
  · exact fun g hg => ⟨far g (hs g hg).1 (hown.lt g hg).2, (hs g hg).2⟩
  · exact fun k hk => (hT k hk).elim (fun h => Nat.lt_of_lt_of_le (hTs k h) hO.size) (fun h => h.2)
theorem TS.abides (w : World) (b : Nat) (ot : Nat → List Sp.Bs) (B : Nat) (hB : w.heap.size ≤ B) : Abides B (fun k T W => TS w b (ot k) T W) := by
  intro k T T' W1 W2 h hO _ hT
  exact h.move (hO.mono (fun k _ h => h.2)) (h.wext.trans (hO.below h.wext.size (fun k hk h => by omega))) hT
theorem TS.ext {w : World} {b : Nat} {ot : List Sp.Bs} {T : BSet} {W W' : World} (h : TS w b ot T W) (hx : Ext W W') : TS w b ot T W' :=
  h.move (Only.of_ext hx) (ext_trans h.wext hx) (fun _ h => .inl h)
theorem TS.append {w : World} {b : Nat} {ot : List Sp.Bs} {T : BSet} {W : World} (s : Sp.Bs) (h : TS w b ot T W) (hl : ot.length + 1 ≤ 1000000) {sv : Value} (hc : W.cell? ⟨b, 0, none⟩ = some sv) :
    ∃ aa nn cc W', (Builtin.append_ #[33, 33] 33 #[sv, .slice (some ⟨W.heap.size, 0, none⟩) 1 1]).run Tryz.prog (W.alloc (.cells #[str s] 9)) = .ok (.slice aa nn cc) W' ∧ W'.cell? ⟨b, 0, none⟩ = some sv ∧ W'.frozen? ⟨b, 0, none⟩ = false ∧
      TS w b (ot ++ [s]) T (W'.setCell ⟨b, 0, none⟩ (.slice aa nn cc)) ∧ Only (fun b => ¬ T b) W (W'.setCell ⟨b, 0, none⟩ (.slice aa nn cc)) := by
  obtain ⟨sv', h2, hown, t2, hs, hE, hTs, hws⟩ := h
  have hsv : sv' = sv := by
    have := (cell_of_one h2).symm.trans hc
    simpa using this
  subst hsv
  obtain ⟨i0, hi, hz0, hz1, hz2⟩ := info_parts Tryz.info9
  have hE1 := hE.size
  obtain ⟨v', W', hrun, hown', hgrow, _, hat⟩ := run_append_own_at (w := W.alloc (.cells #[str s] 9)) w.heap.size 33 33 9 i0 (.string ⟨#[]⟩) 1 16 Tryz.underlying33 hi hz0 hz1 hz2 rfl (by decide) sv' ot.length (ot.map str) (hown.alloc _) ⟨W.heap.size, 0, none⟩ 1 1 [str s] rfl
    (by intro j y hj
        match j, hj with
        | 0, hj => simp at hj; subst hj; simp [Addr.add, World.cell?_alloc_at]) (by intro y hy; simp at hy; subst hy; rfl) (by unfold maxLen; omega) (by omega) (by simp; omega)
  have hO1 : Only (fun k => some k = sv'.ownBlock) W W' := ((Only.refl _ W).alloc _).grown hgrow (fun k e _ => e.symm)
  have hnew : ∀ g, v'.ownBlock = some g → sv'.ownBlock = some g ∨ W.heap.size ≤ g := by
    intro g hg
    rcases hat with e | e
    · exact .inl (by rw [← e, hg])
    · rw [hg] at e; cases e; right; simp
  have l2 := lt_of_block h2
  have h2' : W'.heap[b]? = some (.cells #[sv'] 33 (0, 0)) := (hO1.block _ l2 (fun e => (hs b e.symm).2 rfl)).trans h2
  have hO2 : Only (fun k => k = b ∨ some k = sv'.ownBlock) W (W'.setCell ⟨b, 0, none⟩ v') := (hO1.mono (fun k _ e => .inr e)).setCell (p := ⟨b, 0, none⟩) (fun _ => .inl rfl) _
  have hO3 : Only (fun k => k = b) W' (W'.setCell ⟨b, 0, none⟩ v') := (Only.refl (fun k => k = b) W').setCell (p := ⟨b, 0, none⟩) (fun _ => rfl) _
  have hn2 : ∀ g, v'.ownBlock = some g → g ≠ b := fun g hg e => (hnew g hg).elim (fun h => (hs g h).2 e) (fun h => by omega)
  obtain ⟨aa, nn, cc, hvs⟩ : ∃ aa nn cc, v' = .slice aa nn cc := by
    rcases hown'.2 with ⟨hv, _⟩ | ⟨g, cap, cur, hv, _⟩
    · exact ⟨_, _, _, hv⟩
    · exact ⟨_, _, _, hv⟩
  subst hvs
  refine ⟨aa, nn, cc, W', hrun, cell_of_one h2', Lib.frozen_of_heap h2' 0, ⟨.slice aa nn cc, ?_, ?_, t2, ?_, ?_, ?_, hws⟩, ?_⟩
  · have := heap_setCell_same W' b 0 _ _ (.slice aa nn cc) h2'
    simpa using this
  · have := ownsRow_only hown' hO3 (fun g hg e => hn2 g hg e)
    simpa using this
  · intro g hg
    rcases hnew g hg with e | hge
    · exact hs g e
    · exact ⟨fun h => by have := hTs g h; omega, by omega⟩
  · exact hE.trans (hO2.below hE.size (fun k hk h => h.elim (fun e => by omega) (fun e => by
      rcases hown.2 with ⟨hv, _⟩ | ⟨g, cap, cur, hv, hb, _⟩
      · rw [hv] at e; cases e
      · rw [hv] at e; cases e; exact absurd hk (Nat.not_lt.2 hb))))
  · exact fun k hk => Nat.lt_of_lt_of_le (hTs k hk) hO2.size
  · exact hO2.mono (fun k _ h hk => h.elim (fun e => t2 (e ▸ hk)) (fun e => (hs k e.symm).1 hk))

end Go.Proofs.YtjbllanlfgbpkaaGreatDoor
