/- readable: its iterator -/
import Derived.Test.YtjbllanlfgbpkaaGreatDoorRead2
namespace Go.Proofs.YtjbllanlfgbpkaaGreatDoor
open Go.RowKit

attribute [local go_sem] Oper.semAt_some wide_fn wide_depth round_fn round_depth

theorem visit_any {wB : World} {att : PartD → Bool} {Sub : PartD → Prop} (hA : AttOk att Sub) (hG : G wB) {l : Nat} {xs : List Value} {J : Nat → World → Prop} {Jx : World → Prop} (hY : Yields wB l xs J Jx) :
    ∀ (m : Nat) (d : PartD), SizeOf.sizeOf d ≤ m → Sub d → VisitAt wB att l xs J Jx d := by
  intro m
  induction m with
  | zero => intro d h; cases d; simp at h
  | succ m ih =>
    intro d h hs
    cases d with
    | mk f t p bd q =>
      refine visit_step hA hG hY f t p bd q hs ?_
      intro d hd
      refine ih d ?_ (hA.1 _ hs d hd)
      have := List.sizeOf_lt_of_mem hd
      simp at h
      omega

/-- the blocks that lay in wB, and the closure's box -/
abbrev RB (wB : World) (b : Nat) : BSet := fun k => k < wB.heap.size ∨ k = b

set_option maxHeartbeats 1000000 in
theorem readable_iter {att : PartD → Bool} {Sub : PartD → Prop} (hA : AttOk att Sub) (wB w0 : World) (d : PartD) (v0 v1 v2 v3 v4 : Value) (b : Nat) (hG : G wB) (hs : Sub d) (hv : PartAt wB d (.agg #[v0, v1, v2, v3, v4])) (hE : Ext wB w0)
    (hb : w0.heap[b]? = some (.cells #[v0, v1, v2, v3, v4] 26 (0, 0))) :
    Iter 69 #[.pointer (some ⟨b, 0, none⟩)] ((reads wB att d (.agg #[v0, v1, v2, v3, v4])).map Prod.snd) (RB wB b) w0 := by
  intro l J Jx W hO hJ hJx hYd h0
  have hbW : W.heap[b]? = some (.cells #[v0, v1, v2, v3, v4] 26 (0, 0)) := (hO.block b (lt_of_block hb) (fun h => h (.inr rfl))).trans hb
  have hEW : Ext wB W := hE.trans (hO.below hE.size (fun k hk h => h (.inl hk)))
  have hY : Yields wB l ((reads wB att d (.agg #[v0, v1, v2, v3, v4])).map Prod.snd) (fun k W' => J k (RB wB b) W' ∧ Ext wB W') (fun W' => Jx (RB wB b) W') := by
    refine ⟨fun k W' h => h.2, ?_, ?_, ?_⟩
    · exact fun k W1 W2 h hx => ⟨hJ k _ _ W1 W2 h.1 (Only.of_ext hx) (fun _ h => h) (fun _ h => .inl h), ext_trans h.2 hx⟩
    · exact fun W1 W2 h hx => hJx () _ _ W1 W2 h (Only.of_ext hx) (fun _ h => h) (fun _ h => .inl h)
    · rintro k x W1 hx ⟨hj, he⟩
      obtain ⟨fn, tmps, assign, body, hy, hR⟩ := hYd k x _ W1 hx hj
      refine ⟨fn, tmps, assign, body, hy, hR.mono ?_⟩
      rintro e W' ⟨hO', h⟩
      refine h.imp (fun h => ⟨h.1, h.2, he.trans (hO'.below he.size (fun k hk h => h (.inl hk)))⟩) id
  have hV := visit_any hA hG hY _ d (Nat.le_refl _) hs (.agg #[v0, v1, v2, v3, v4]) 0 W hv (fun i x hx => by rw [Nat.zero_add, List.getElem?_map, hx]; rfl) ⟨h0, hEW⟩
  have c0 : W.cell? ⟨b, 0, none⟩ = some v0 := by rw [Lib.cell_of_heap hbW]; rfl
  have c1 : W.cell? ⟨b, 1, none⟩ = some v1 := by rw [Lib.cell_of_heap hbW]; rfl
  have c2 : W.cell? ⟨b, 2, none⟩ = some v2 := by rw [Lib.cell_of_heap hbW]; rfl
  have c3 : W.cell? ⟨b, 3, none⟩ = some v3 := by rw [Lib.cell_of_heap hbW]; rfl
  have c4 : W.cell? ⟨b, 4, none⟩ = some v4 := by rw [Lib.cell_of_heap hbW]; rfl
  have HV := Lib.hid hV
  clear hY hYd hV
  refine callsIn_of_wp Tryz.func69 rfl trivial ?_ rfl
  simp only [Tryz.ntmps69, List.size_toArray, List.length_cons, List.length_nil, Nat.reduceAdd, Nat.reduceSub, Array.replicate_succ, Array.replicate_zero, List.push_toArray, List.append_toArray, List.nil_append, List.cons_append]
  gi_wp2_with fail
  refine HV.out.mono ?_
  rintro e W4 (⟨rfl, hJ4, hE4⟩ | ⟨rfl, hJ4⟩)
  · gi_wp2_with fail
    refine bodyPost_end (results_none rfl _ _ _) rfl ?_
    refine ⟨⟨_, rfl⟩, RB wB b, .inl ?_⟩
    rw [List.length_map]
    rwa [Nat.zero_add] at hJ4
  · gi_wp2_with fail
    refine bodyPost_end (results_none rfl _ _ _) rfl ?_
    exact ⟨⟨_, rfl⟩, RB wB b, .inr hJ4⟩

theorem readable_any (v0 v1 v2 v3 v4 : Value) (w : World) :
    Calls Tryz.prog 29 #[.agg #[v0, v1, v2, v3, v4]] w fun e w' => e = .returned (.func (.func 69) #[] #[.pointer (some ⟨w.heap.size, 0, none⟩)]) ∧ w' = w.alloc (.cells #[v0, v1, v2, v3, v4] 26) := by
  go_enter Tryz.func29, Tryz.ntmps29
  go_wp2
  go_ret
  exact ⟨rfl, rfl⟩

end Go.Proofs.YtjbllanlfgbpkaaGreatDoor
