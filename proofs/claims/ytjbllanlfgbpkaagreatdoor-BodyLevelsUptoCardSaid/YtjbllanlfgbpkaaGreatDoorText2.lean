/- body.Text: what its rounds keep -/
import Derived.Test.YtjbllanlfgbpkaaGreatDoorRead3
import Derived.Maps.AppendAt
namespace Go.Proofs.YtjbllanlfgbpkaaGreatDoor
open Go.RowKit

/-- In the rounds of body.Text: the Builder b1 holds pl, the variable b2 the strings ot, the variable b3 fd; the iterator relies on T. -/
def TI (w : World) (b1 b2 b3 : Nat) (pl : Sp.Bs) (ot : List Sp.Bs) (fd : Bool) (T : BSet) (W : World) : Prop :=
  ∃ o sv, Bld b1 o pl W ∧ W.heap[b2]? = some (.cells #[sv] 33 (0, 0)) ∧ W.ownsRow w.heap.size 9 1 sv ot.length (ot.map str) ∧ W.heap[b3]? = some (.cells #[.bool fd] 4 (0, 0)) ∧
    (¬ T b1 ∧ ¬ T b2 ∧ ¬ T b3) ∧ (∀ g, o = some g → ¬ T g ∧ w.heap.size ≤ g ∧ g ≠ b2 ∧ g ≠ b3) ∧ (∀ g, sv.ownBlock = some g → ¬ T g ∧ g ≠ b1 ∧ g ≠ b2 ∧ g ≠ b3 ∧ o ≠ some g) ∧
    Ext w W ∧ (∀ k, T k → k < W.heap.size) ∧ (w.heap.size ≤ b1 ∧ w.heap.size ≤ b2 ∧ w.heap.size ≤ b3) ∧ b1 ≠ b2 ∧ b1 ≠ b3 ∧ b2 ≠ b3

theorem TI.move {w : World} {b1 b2 b3 : Nat} {pl : Sp.Bs} {ot : List Sp.Bs} {fd : Bool} {T T' : BSet} {W W' : World} (h : TI w b1 b2 b3 pl ot fd T W) (hO : Only T W W') (hE : Ext w W') (hT : ∀ b, T' b → T b ∨ (W.heap.size ≤ b ∧ b < W'.heap.size)) : TI w b1 b2 b3 pl ot fd T' W' := by
  obtain ⟨o, sv, hB, h2, hown, h3, ⟨t1, t2, t3⟩, ho, hs, _, hTs, hws, hne⟩ := h
  have l1 := hB.lt
  have l2 := lt_of_block h2
  have l3 := lt_of_block h3
  have far : ∀ b, ¬ T b → b < W.heap.size → ¬ T' b := fun b hb hlt hT' => (hT b hT').elim hb (fun h => by omega)
  refine ⟨o, sv, hB.only hO t1 (fun g hg => (ho g hg).1), (hO.block _ l2 t2).trans h2, ownsRow_only hown hO (fun g hg => (hs g hg).1), (hO.block _ l3 t3).trans h3, ⟨far _ t1 l1, far _ t2 l2, far _ t3 l3⟩, ?_, ?_, hE, ?_, hws, hne⟩
  · exact fun g hg => ⟨far g (ho g hg).1 (hB.lt_own g hg), (ho g hg).2⟩
  · exact fun g hg => ⟨far g (hs g hg).1 (hown.lt g hg).2, (hs g hg).2⟩
  · exact fun k hk => (hT k hk).elim (fun h => Nat.lt_of_lt_of_le (hTs k h) hO.size) (fun h => h.2)
theorem TI.abides (w : World) (b1 b2 b3 : Nat) (pl : Nat → Sp.Bs) (ot : Nat → List Sp.Bs) (fd : Nat → Bool) (B : Nat) (hB : w.heap.size ≤ B) : Abides B (fun k T W => TI w b1 b2 b3 (pl k) (ot k) (fd k) T W) := by
  intro k T T' W1 W2 h hO _ hT
  have hE : Ext w W1 := by obtain ⟨_, _, _, _, _, _, _, _, _, hE, _⟩ := h; exact hE
  exact h.move (hO.mono (fun k _ h => h.2)) (hE.trans (hO.below hE.size (fun k hk h => by omega))) hT
theorem TI.ext {w : World} {b1 b2 b3 : Nat} {pl : Sp.Bs} {ot : List Sp.Bs} {fd : Bool} {T : BSet} {W W' : World} (h : TI w b1 b2 b3 pl ot fd T W) (hx : Ext W W') : TI w b1 b2 b3 pl ot fd T W' := by
  have hE : Ext w W := by obtain ⟨_, _, _, _, _, _, _, _, _, hE, _⟩ := h; exact hE
  exact h.move (Only.of_ext hx) (ext_trans hE hx) (fun _ h => .inl h)
theorem TI.wext {w : World} {b1 b2 b3 : Nat} {pl : Sp.Bs} {ot : List Sp.Bs} {fd : Bool} {T : BSet} {W : World} (h : TI w b1 b2 b3 pl ot fd T W) : Ext w W := by obtain ⟨_, _, _, _, _, _, _, _, _, hE, _⟩ := h; exact hE

/-- plain.WriteString(s) -/
theorem TI.write {w : World} {b1 b2 b3 : Nat} {pl : Sp.Bs} {ot : List Sp.Bs} {fd : Bool} {T : BSet} {W : World} (s : ByteArray) (h : TI w b1 b2 b3 pl ot fd T W) (hlen : pl.length + s.size ≤ 140737488355328) :
    Calls Tryz.prog 30 #[.pointer (some ⟨b1, 0, none⟩), .string s] W fun e W' => e = .returned (.tuple #[.int .i64 s.size, .nilIface]) ∧ TI w b1 b2 b3 (pl ++ s.data.toList) ot fd T W' ∧ Only (fun b => ¬ T b) W W' := by
  obtain ⟨o, sv, hB, h2, hown, h3, ⟨t1, t2, t3⟩, ho, hs, hE, hTs, hws, hne1, hne2, hne3⟩ := h
  refine (writeString_any s hB hlen).mono ?_
  rintro e W' ⟨he, o', hB', hn, hO⟩
  have l2 := lt_of_block h2
  have l3 := lt_of_block h3
  have hO' : Only (fun b => ¬ T b) W W' := hO.mono (fun k _ h hk => h.elim (fun e => t1 (e ▸ hk)) (fun e => (ho k e.symm).1 hk))
  have hnew : ∀ g, o' = some g → o = some g ∨ W.heap.size ≤ g := by
    intro g hg
    rcases hn with e | ⟨g', e, hge⟩
    · exact .inl (by rw [← e, hg])
    · rw [hg] at e; cases e; exact .inr hge
  refine ⟨he, ⟨o', sv, hB', ?_, ownsRow_only hown hO ?_, ?_, ⟨t1, t2, t3⟩, ?_, ?_, ?_, ?_, hws, hne1, hne2, hne3⟩, hO'⟩
  · exact (hO.block _ l2 (fun h => h.elim (fun e => hne1 e.symm) (fun e => (ho b2 e.symm).2.2.1 rfl))).trans h2
  · exact fun g hg h => h.elim (fun e => (hs g hg).2.1 e) (fun e => (hs g hg).2.2.2.2 e.symm)
  · exact (hO.block _ l3 (fun h => h.elim (fun e => hne2 e.symm) (fun e => (ho b3 e.symm).2.2.2 rfl))).trans h3
  · intro g hg
    rcases hnew g hg with e | hge
    · exact ho g e
    · have := hE.size
      exact ⟨fun h => by have := hTs _ h; omega, by omega, by omega, by omega⟩
  · intro g hg
    refine ⟨(hs g hg).1, (hs g hg).2.1, (hs g hg).2.2.1, (hs g hg).2.2.2.1, fun e => ?_⟩
    rcases hnew g e with e | hge
    · exact (hs g hg).2.2.2.2 e
    · have := (hown.lt g hg).2; omega
  · exact hE.trans (hO.below hE.size (fun k hk h => h.elim (fun e => by omega) (fun e => by have := (ho k e.symm).2.1; omega)))
  · exact fun k hk => Nat.lt_of_lt_of_le (hTs k hk) hO.size

/-- found = true -/
theorem TI.found {w : World} {b1 b2 b3 : Nat} {pl : Sp.Bs} {ot : List Sp.Bs} {fd : Bool} {T : BSet} {W : World} (h : TI w b1 b2 b3 pl ot fd T W) :
    W.cell? ⟨b3, 0, none⟩ = some (.bool fd) ∧ W.frozen? ⟨b3, 0, none⟩ = false ∧ TI w b1 b2 b3 pl ot true T (W.setCell ⟨b3, 0, none⟩ (.bool true)) ∧ Only (fun b => ¬ T b) W (W.setCell ⟨b3, 0, none⟩ (.bool true)) := by
  obtain ⟨o, sv, hB, h2, hown, h3, ⟨t1, t2, t3⟩, ho, hs, hE, hTs, hws, hne1, hne2, hne3⟩ := h
  have hO : Only (· = b3) W (W.setCell ⟨b3, 0, none⟩ (.bool true)) := (Only.refl (· = b3) W).setCell (p := ⟨b3, 0, none⟩) (fun _ => rfl) _
  have l2 := lt_of_block h2
  refine ⟨cell_of_one h3, Lib.frozen_of_heap h3 0, ⟨o, sv, hB.only hO hne2 (fun g hg => (ho g hg).2.2.2), (hO.block _ l2 hne3).trans h2, ownsRow_only hown hO (fun g hg => (hs g hg).2.2.2.1), ?_, ⟨t1, t2, t3⟩, ho, hs, ?_, ?_, hws, hne1, hne2, hne3⟩, hO.mono (fun k _ e hk => t3 (e ▸ hk))⟩
  · have := heap_setCell_same W b3 0 _ _ (.bool true) h3
    simpa using this
  · exact hE.trans (hO.below hE.size (fun k hk e => by omega))
  · exact fun k hk => Nat.lt_of_lt_of_le (hTs k hk) hO.size

theorem TI.sv {w : World} {b1 b2 b3 : Nat} {pl : Sp.Bs} {ot : List Sp.Bs} {fd : Bool} {T : BSet} {W : World} (h : TI w b1 b2 b3 pl ot fd T W) : ∃ sv, W.cell? ⟨b2, 0, none⟩ = some sv := by
  obtain ⟨o, sv, _, h2, _⟩ := h
  exact ⟨sv, cell_of_one h2⟩
/-- others = append(others, s) -/
theorem TI.append {w : World} {b1 b2 b3 : Nat} {pl : Sp.Bs} {ot : List Sp.Bs} {fd : Bool} {T : BSet} {W : World} (s : Sp.Bs) (h : TI w b1 b2 b3 pl ot fd T W) (hl : ot.length + 1 ≤ 1000000) {sv : Value} (hc : W.cell? ⟨b2, 0, none⟩ = some sv) :
    ∃ aa nn cc W', (Builtin.append_ #[33, 33] 33 #[sv, .slice (some ⟨W.heap.size, 0, none⟩) 1 1]).run Tryz.prog (W.alloc (.cells #[str s] 9)) = .ok (.slice aa nn cc) W' ∧ W'.cell? ⟨b2, 0, none⟩ = some sv ∧ W'.frozen? ⟨b2, 0, none⟩ = false ∧
      TI w b1 b2 b3 pl (ot ++ [s]) fd T (W'.setCell ⟨b2, 0, none⟩ (.slice aa nn cc)) ∧ Only (fun b => ¬ T b) W (W'.setCell ⟨b2, 0, none⟩ (.slice aa nn cc)) := by
  obtain ⟨o, sv', hB, h2, hown, h3, ⟨t1, t2, t3⟩, ho, hs, hE, hTs, hws, hne1, hne2, hne3⟩ := h
  have hsv : sv' = sv := by
    have := (cell_of_one h2).symm.trans hc
    simpa using this
  subst hsv
  obtain ⟨i0, hi, hz0, hz1, hz2⟩ := info_parts Tryz.info9
  have hE1 := hE.size
  obtain ⟨v', W', hrun, hown', hgrow, _, hat⟩ := run_append_own_at (w := W.alloc (.cells #[str s] 9)) w.heap.size 33 33 9 i0 (.string ⟨#[]⟩) 1 16 Tryz.underlying33 hi hz0 hz1 hz2 rfl (by decide) sv' ot.length (ot.map str) (hown.alloc _) ⟨W.heap.size, 0, none⟩ 1 1 [str s] rfl
    (by intro j y hj
        match j, hj with
        | 0, hj => simp at hj; subst hj; simp [Addr.add, World.cell?_alloc_at]) (by intro y hy; simp at hy; subst hy; rfl) (by unfold maxLen; omega) (by omega) (by simp; omega)
  have hO1 : Only (fun k => some k = sv'.ownBlock) W W' := ((Only.refl _ W).alloc _).grown hgrow (fun k e _ => e.symm)
  have hnew : ∀ g, v'.ownBlock = some g → sv'.ownBlock = some g ∨ W.heap.size ≤ g := by
    intro g hg
    rcases hat with e | e
    · exact .inl (by rw [← e, hg])
    · rw [hg] at e; cases e; right; simp
  have l1 := hB.lt
  have l2 := lt_of_block h2
  have l3 := lt_of_block h3
  have h2' : W'.heap[b2]? = some (.cells #[sv'] 33 (0, 0)) := (hO1.block _ l2 (fun e => (hs b2 e.symm).2.2.1 rfl)).trans h2
  have hO2 : Only (fun k => k = b2 ∨ some k = sv'.ownBlock) W (W'.setCell ⟨b2, 0, none⟩ v') := (hO1.mono (fun k _ e => .inr e)).setCell (p := ⟨b2, 0, none⟩) (fun _ => .inl rfl) _
  have hO3 : Only (fun k => k = b2) W' (W'.setCell ⟨b2, 0, none⟩ v') := (Only.refl (fun k => k = b2) W').setCell (p := ⟨b2, 0, none⟩) (fun _ => rfl) _
  have hn2 : ∀ g, v'.ownBlock = some g → g ≠ b2 := fun g hg e => (hnew g hg).elim (fun h => (hs g h).2.2.1 e) (fun h => by omega)
  obtain ⟨aa, nn, cc, hvs⟩ : ∃ aa nn cc, v' = .slice aa nn cc := by
    rcases hown'.2 with ⟨hv, _⟩ | ⟨g, cap, cur, hv, _⟩
    · exact ⟨_, _, _, hv⟩
    · exact ⟨_, _, _, hv⟩
  subst hvs
  refine ⟨aa, nn, cc, W', hrun, cell_of_one h2', Lib.frozen_of_heap h2' 0, ⟨o, .slice aa nn cc, hB.only hO2 (fun h => h.elim hne1 (fun e => (hs b1 e.symm).2.1 rfl)) (fun g hg h => h.elim (ho g hg).2.2.1 (fun e => (hs g e.symm).2.2.2.2 hg)), ?_, ?_, ?_, ⟨t1, t2, t3⟩, ho, ?_, ?_, ?_, hws, hne1, hne2, hne3⟩, ?_⟩
  · have := heap_setCell_same W' b2 0 _ _ (.slice aa nn cc) h2'
    simpa using this
  · have := ownsRow_only hown' hO3 (fun g hg e => hn2 g hg e)
    simpa using this
  · exact (hO2.block _ l3 (fun h => h.elim (fun e => hne3 e.symm) (fun e => (hs b3 e.symm).2.2.2.1 rfl))).trans h3
  · intro g hg
    rcases hnew g hg with e | hge
    · exact hs g e
    · refine ⟨fun h => by have := hTs g h; omega, by omega, by omega, by omega, fun e => by have := hB.lt_own g e; omega⟩
  · exact hE.trans (hO2.below hE.size (fun k hk h => h.elim (fun e => by omega) (fun e => by
      rcases hown.2 with ⟨hv, _⟩ | ⟨g, cap, cur, hv, hb, _⟩
      · rw [hv] at e; cases e
      · rw [hv] at e; cases e; exact absurd hk (Nat.not_lt.2 hb))))
  · exact fun k hk => Nat.lt_of_lt_of_le (hTs k hk) hO2.size
  · exact hO2.mono (fun k _ h hk => h.elim (fun e => t2 (e ▸ hk)) (fun e => (hs k e.symm).1 hk))

/-- append, as a step of a region that draws its order, by its run's equation -/
theorem stepIn_append {F : Fence} {n : Nat} {P : Program} {o : Oper} {a : Act} {w : World} {K : Act → World → Prop} {Q : Exit → Act → World → Prop} {c alt : Prop} [Decidable c]
    (s x : Operand) (t : TypeId) (hop : o.op = Op.call { callee := Callee.builtin Builtin.append, args := #[s, x], argTypes := #[t, t] }) (v u v' : Value) (w' : World) (hs : a.eval s = v) (hx : a.eval x = u)
    (hrun : (Builtin.append_ #[t, t] o.type #[v, u]).run P w = .ok v' w') (hc : c) (hK : K (a.put o.dst v') w') : if c then Oper.wpIn F n P o a w K Q else alt := by
  rw [if_pos hc]
  unfold Oper.wpIn
  refine ⟨?_, ?_⟩
  · simp [Oper.about, hop, resolve, Target.leads, Sem.run_pure]
  · rw [Oper.semAt_plain F _ _ (by rw [hop]; intro c hc'; cases hc')]
    simp [execOp, hop, resolve, invoke, builtin, hs, hx, hrun, Result.andThen]
    exact hK

end Go.Proofs.YtjbllanlfgbpkaaGreatDoor
