/- body.Docs, where there are no documents -/
import Derived.Test.YtjbllanlfgbpkaaGreatDoorDocs1
namespace Go.Proofs.YtjbllanlfgbpkaaGreatDoor
open Go.RowKit

attribute [local go_sem] Oper.semAt_some wide_fn wide_depth round_fn round_depth

set_option maxRecDepth 100000 in
set_option maxHeartbeats 4000000 in
theorem docs_none {att : PartD → Bool} {Sub : PartD → Prop} (hA : AttOk att Sub) (d : PartD) (v : Value) (w : World) (hG : G w) (hs : Sub d) (hv : PartAt w d v) (hin : Sp.within d = true) (hno : Sp.docs att d = []) :
    Calls Tryz.prog 20 #[v] w fun e w' => e = .returned (.slice none 0 0) ∧ Ext w w' := by
  obtain ⟨a0, c0, a2, c2, a4, c4, rfl⟩ := hv.shape
  have hx1 : Ext w (w.alloc (.cells #[.slice a0 d.fields.length c0, str d.type, .slice a2 d.params.length c2, str d.body, .slice a4 d.parts.length c4] 26)) := ext_alloc (Below.refl _ _) _
  refine (callsIn_wide (n := 0)).1 (callsIn_of_wp_marks Tryz.func20 rfl trivial ?_ rfl)
  simp only [Tryz.ntmps20, List.size_toArray, List.length_cons, List.length_nil, Nat.reduceAdd, Nat.reduceSub, Array.replicate_succ, Array.replicate_zero, List.push_toArray, List.append_toArray, List.nil_append, List.cons_append]
  gi_wp2_with fail
  refine (callsIn_wide.2 (within_any d _ _ (PartAt.ext hx1 _ _ hv))).mono ?_
  rintro e w2 ⟨rfl, hx2⟩
  rw [hin]
  obtain ⟨b0, b1, b2, b3, b4⟩ := box5 hx2
  have hx2' := ext_trans hx1 hx2
  have hx3 : Ext w2 (w2.alloc (.cells #[.slice none 0 0] 41)) := ext_alloc (Below.refl _ _) _
  replace b0 := cell_ext hx3 b0
  replace b1 := cell_ext hx3 b1
  replace b2 := cell_ext hx3 b2
  replace b3 := cell_ext hx3 b3
  replace b4 := cell_ext hx3 b4
  have hlb := heap_alloc_new w2 (.cells #[.slice none 0 0] 41)
  gi_wp2_with fail
  refine (callsIn_wide.2 (documents_any _ _ _ _ _ _)).mono ?_
  rintro e w3 ⟨rfl, rfl⟩
  have hx4 : Ext (w2.alloc (.cells #[.slice none 0 0] 41)) ((w2.alloc (.cells #[.slice none 0 0] 41)).alloc (.cells #[.slice a0 d.fields.length c0, str d.type, .slice a2 d.params.length c2, str d.body, .slice a4 d.parts.length c4] 26)) := ext_alloc (Below.refl _ _) _
  have hbx := heap_alloc_new (w2.alloc (.cells #[.slice none 0 0] 41)) (.cells #[.slice a0 d.fields.length c0, str d.type, .slice a2 d.params.length c2, str d.body, .slice a4 d.parts.length c4] 26)
  have hlb4 := (hx4.block _ (lt_of_block hlb)).trans hlb
  have hxx := ext_trans hx2' (ext_trans hx3 hx4)
  have hit := documents_iter hA w _ d _ _ _ _ _ _ hG hs hv hxx hbx
  rw [show (docsAt w att d (.agg #[.slice a0 d.fields.length c0, str d.type, .slice a2 d.params.length c2, str d.body, .slice a4 d.parts.length c4])) = [] from List.map_eq_nil_iff.1 ((docs_fst w att d _).trans hno)] at hit
  simp only [World.size_alloc] at hit hbx hlb4 ⊢
  have hsz4 : ((w2.alloc (.cells #[.slice none 0 0] 41)).alloc (.cells #[.slice a0 d.fields.length c0, str d.type, .slice a2 d.params.length c2, str d.body, .slice a4 d.parts.length c4] 26)).heap.size = w2.heap.size + 2 := by simp
  have hws := hxx.size
  generalize ((w2.alloc (.cells #[.slice none 0 0] 41)).alloc (.cells #[.slice a0 d.fields.length c0, str d.type, .slice a2 d.params.length c2, str d.body, .slice a4 d.parts.length c4] 26)) = w4 at *
  have hws2 := hx2'.size
  clear b0 b1 b2 b3 b4
  gi_wp2_with fail
  refine wp_range2 (gf := 106) (lb := #[.pointer (some ⟨w2.heap.size + 1, 0, none⟩)]) rfl (enters_of Tryz.func106 (by kernel_rfl) rfl) hit (Only.refl _ _)
    ?r1 ?r1 rfl (fun k T W => Ext w W ∧ W.heap[w2.heap.size]? = some (.cells #[.slice none 0 0] 41 (0, 0)) ∧ ¬ T w2.heap.size) (fun _ _ _ => False)
    ?ab (fun _ _ _ _ _ _ h => h.elim) ⟨hxx, hlb4, fun h => by rcases h with h | h <;> omega⟩
    (fun _ _ _ _ => True) (fun _ _ _ _ _ _ _ _ _ _ _ => trivial) ?assign ?body ?done ?stop
  case r1 =>
    rintro b (h | h) <;> omega
  case ab =>
    rintro k T T' W1 W2 ⟨h1, h2, h3⟩ hO hT hT'
    have hlt := lt_of_block h2
    exact ⟨h1.trans (hO.below h1.size (fun k hk h => by omega)), (hO.block _ hlt (fun h => h3 h.2)).trans h2, fun h => (hT' _ h).elim h3 (fun h => by omega)⟩
  case assign =>
    rintro l k x T W K hx
    simp at hx
  case body =>
    rintro l k x T W a hx
    simp at hx
  case done =>
    rintro D T W hD hTD ⟨h1, h2, h3⟩ hK
    have cs := cell_of_one h2
    clear hit
    gi_wp2_with fail
    refine ⟨by simp, .inl ⟨_, _, rfl, run_takeDeferred hK, ?_⟩⟩
    refine ⟨_, results_tmp rfl _ _ _, rfl, ?_⟩
    exact h1.trans ((only_putObj (M := fun k => k = D) (Only.refl _ W) D _ (fun _ => rfl)).below h1.size (fun k hk e => by omega))
  case stop =>
    rintro D c T W hD hTD h
    exact h.elim

end Go.Proofs.YtjbllanlfgbpkaaGreatDoor
