/- body.parts: its iterator -/
import Derived.Test.YtjbllanlfgbpkaaGreatDoorParts2
import Derived.Laws.EntriesVeiled
namespace Go.Proofs.YtjbllanlfgbpkaaGreatDoor
open Go.RowKit

attribute [local go_sem] Oper.semAt_some wide_fn wide_depth round_fn round_depth

theorem pvisit_any {wB : World} {clo : PartD → Bool} {gc : Nat} {lc : Array Value} {Sub : PartD → Prop} (hC : CloOk clo gc lc wB Sub) (eg : ∀ args w, (callFunc gc args).run Tryz.prog w = .ok (.enter gc args) w)
    {l yb cb vb : Nat} {xs : List Value} {J : Nat → BSet → World → Prop} {Jx : BSet → World → Prop} (hY : YieldsT l xs J Jx) :
    ∀ (m : Nat) (d : PartD), SizeOf.sizeOf d ≤ m → Sub d → PVisitAt wB clo l yb cb vb gc lc xs J Jx d := by
  intro m
  induction m with
  | zero => intro d h; cases d; simp at h
  | succ m ih =>
    intro d h hs
    cases d with
    | mk f t p bd q =>
      refine pvisit_step hC eg hY f t p bd q hs ?_
      intro d hd
      refine ih d ?_ (hC.1 _ hs d hd)
      have := List.sizeOf_lt_of_mem hd
      simp at h
      omega

/-- the blocks that lay in wB, and the two boxes of the closure -/
abbrev RP (wB : World) (cb pb : Nat) : BSet := fun k => k < wB.heap.size ∨ k = cb ∨ k = pb

set_option maxHeartbeats 2000000 in
theorem parts_iter {wB : World} {clo : PartD → Bool} {gc : Nat} {lc : Array Value} {Sub : PartD → Prop} (hC : CloOk clo gc lc wB Sub) (eg : ∀ args w, (callFunc gc args).run Tryz.prog w = .ok (.enter gc args) w) (w0 : World) (d : PartD) (v0 v1 v2 v3 v4 : Value) (cb pb : Nat) (hs : Sub d) (hv : PartAt wB d (.agg #[v0, v1, v2, v3, v4])) (hE : Ext wB w0)
    (hp : w0.heap[pb]? = some (.cells #[v0, v1, v2, v3, v4] 26 (0, 0))) (hc : w0.heap[cb]? = some (.cells #[.func (.func gc) #[] lc] 46 (0, 0))) :
    Iter 102 #[.pointer (some ⟨cb, 0, none⟩), .pointer (some ⟨pb, 0, none⟩)] ((alls wB clo d (.agg #[v0, v1, v2, v3, v4])).map Prod.snd) (RP wB cb pb) w0 := by
  intro l J Jx W hO hJ hJx hYd h0
  have hpW : W.heap[pb]? = some (.cells #[v0, v1, v2, v3, v4] 26 (0, 0)) := (hO.block pb (lt_of_block hp) (fun h => h (.inr (.inr rfl)))).trans hp
  have hcW : W.heap[cb]? = some (.cells #[.func (.func gc) #[] lc] 46 (0, 0)) := (hO.block cb (lt_of_block hc) (fun h => h (.inr (.inl rfl)))).trans hc
  have hEW : Ext wB W := hE.trans (hO.below hE.size (fun k hk h => h (.inl hk)))
  have c0 : W.cell? ⟨pb, 0, none⟩ = some v0 := by rw [Lib.cell_of_heap hpW]; rfl
  have c1 : W.cell? ⟨pb, 1, none⟩ = some v1 := by rw [Lib.cell_of_heap hpW]; rfl
  have c2 : W.cell? ⟨pb, 2, none⟩ = some v2 := by rw [Lib.cell_of_heap hpW]; rfl
  have c3 : W.cell? ⟨pb, 3, none⟩ = some v3 := by rw [Lib.cell_of_heap hpW]; rfl
  have c4 : W.cell? ⟨pb, 4, none⟩ = some v4 := by rw [Lib.cell_of_heap hpW]; rfl
  have hx : Ext W ((W.alloc (.cells #[.func (.yield l) #[] #[]] 46)).alloc (.cells #[.func (.func 103) #[] #[.pointer (some ⟨W.heap.size, 0, none⟩), .pointer (some ⟨cb, 0, none⟩), .pointer (some ⟨W.heap.size + 1, 0, none⟩)]] 46)) := ext_alloc (ext_alloc (Below.refl _ _) _) _
  have hy1 : ((W.alloc (.cells #[.func (.yield l) #[] #[]] 46)).alloc (.cells #[.func (.func 103) #[] #[.pointer (some ⟨W.heap.size, 0, none⟩), .pointer (some ⟨cb, 0, none⟩), .pointer (some ⟨W.heap.size + 1, 0, none⟩)]] 46)).heap[W.heap.size]? = some (.cells #[.func (.yield l) #[] #[]] 46 (0, 0)) := (Below.heap_alloc _ _ _ (by simp)).trans (heap_alloc_new W _)
  have hv1 : ((W.alloc (.cells #[.func (.yield l) #[] #[]] 46)).alloc (.cells #[.func (.func 103) #[] #[.pointer (some ⟨W.heap.size, 0, none⟩), .pointer (some ⟨cb, 0, none⟩), .pointer (some ⟨W.heap.size + 1, 0, none⟩)]] 46)).heap[W.heap.size + 1]? = some (.cells #[.func (.func 103) #[] #[.pointer (some ⟨W.heap.size, 0, none⟩), .pointer (some ⟨cb, 0, none⟩), .pointer (some ⟨W.heap.size + 1, 0, none⟩)]] 46 (0, 0)) := by
    have := heap_alloc_new (W.alloc (.cells #[.func (.yield l) #[] #[]] 46)) (.cells #[.func (.func 103) #[] #[.pointer (some ⟨W.heap.size, 0, none⟩), .pointer (some ⟨cb, 0, none⟩), .pointer (some ⟨W.heap.size + 1, 0, none⟩)]] 46)
    rw [World.size_alloc] at this
    exact this
  have hPB : PBox l W.heap.size cb (W.heap.size + 1) gc lc ((W.alloc (.cells #[.func (.yield l) #[] #[]] 46)).alloc (.cells #[.func (.func 103) #[] #[.pointer (some ⟨W.heap.size, 0, none⟩), .pointer (some ⟨cb, 0, none⟩), .pointer (some ⟨W.heap.size + 1, 0, none⟩)]] 46)) := ⟨cell_of_one hy1, cell_ext hx (cell_of_one hcW), cell_of_one hv1⟩
  obtain ⟨T1, hT1⟩ : ∃ T1 : BSet, T1 = fun b => RP wB cb pb b ∨ b = W.heap.size ∨ b = W.heap.size + 1 := ⟨_, rfl⟩
  have hTH : THolds wB W.heap.size cb (W.heap.size + 1) T1 := by
    rw [hT1]
    exact ⟨fun b h => .inl (.inl h), .inr (.inl rfl), .inl (.inr (.inl rfl)), .inr (.inr rfl)⟩
  have hJ1 : J 0 T1 ((W.alloc (.cells #[.func (.yield l) #[] #[]] 46)).alloc (.cells #[.func (.func 103) #[] #[.pointer (some ⟨W.heap.size, 0, none⟩), .pointer (some ⟨cb, 0, none⟩), .pointer (some ⟨W.heap.size + 1, 0, none⟩)]] 46)) := by
    refine hJ 0 _ T1 W _ h0 (Only.of_ext hx) (fun b h => by rw [hT1]; exact .inl h) (fun b h => ?_)
    rw [hT1] at h
    rcases h with h | h | h
    · exact .inl h
    · right; subst h; simp; omega
    · right; subst h; simp
  have hY : YieldsT l ((alls wB clo d (.agg #[v0, v1, v2, v3, v4])).map Prod.snd) J Jx :=
    ⟨fun k T T' A B h hx hT hT' => hJ k T T' A B h (Only.of_ext hx) hT hT', hYd⟩
  have hV := pvisit_any hC eg hY _ d (Nat.le_refl _) hs (.agg #[v0, v1, v2, v3, v4]) 0 T1 _ hv (fun i x hx => by rw [Nat.zero_add, List.getElem?_map, hx]; rfl) hJ1 hTH (ext_trans hEW hx) hPB
  have HV := Lib.hid hV
  replace c0 := cell_ext hx c0
  replace c1 := cell_ext hx c1
  replace c2 := cell_ext hx c2
  replace c3 := cell_ext hx c3
  replace c4 := cell_ext hx c4
  clear hV hY hYd hJ1 hTH hT1 hPB hJ hJx
  refine callsIn_of_wp Tryz.func102 rfl trivial ?_ rfl
  simp only [Tryz.ntmps102, List.size_toArray, List.length_cons, List.length_nil, Nat.reduceAdd, Nat.reduceSub, Array.replicate_succ, Array.replicate_zero, List.push_toArray, List.append_toArray, List.nil_append, List.cons_append]
  gi_wp2_with fail
  refine HV.out.mono ?_
  rintro e W4 ⟨_, T2, _, (⟨rfl, hJ4⟩ | ⟨rfl, hJ4⟩)⟩
  · gi_wp2_with fail
    refine bodyPost_end (results_none rfl _ _ _) rfl ?_
    refine ⟨⟨_, rfl⟩, T2, .inl ?_⟩
    rw [List.length_map]
    rwa [Nat.zero_add] at hJ4
  · gi_wp2_with fail
    refine bodyPost_end (results_none rfl _ _ _) rfl ?_
    exact ⟨⟨_, rfl⟩, T2, .inr hJ4⟩

end Go.Proofs.YtjbllanlfgbpkaaGreatDoor
