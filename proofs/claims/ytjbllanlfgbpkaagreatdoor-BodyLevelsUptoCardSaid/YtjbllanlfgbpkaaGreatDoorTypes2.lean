/- body.Types -/
import Derived.Test.YtjbllanlfgbpkaaGreatDoorTypes1
import Derived.Sort.OwnSorted
namespace Go.Proofs.YtjbllanlfgbpkaaGreatDoor
open Go.RowKit

attribute [local go_sem] Oper.semAt_some wide_fn wide_depth round_fn round_depth

/-- append at a plain region's list inside a fence, by its run's equation -/
theorem wpListIn_append_run {F : Fence} {n : Nat} {P : Program} {w : World} {ops : Array Oper} {rest : List Oper} {o : Oper} {a : Act} {Q : Exit → Act → World → Prop}
    (hg : o.guard = none) (s x : Operand) (t : TypeId) (hop : o.op = Op.call { callee := Callee.builtin Builtin.append, args := #[s, x], argTypes := #[t, t] }) (v u v' : Value) (w' : World) (hs : a.eval s = v) (hx : a.eval x = u)
    (hrun : (Builtin.append_ #[t, t] o.type #[v, u]).run P w = .ok v' w') (hK : wpListIn F n P ops Q rest (a.put o.dst v') w') : wpListIn F n P ops Q (o :: rest) a w := by
  refine wpListIn_plain hg fun K hK' => ?_
  unfold Oper.wpIn
  refine ⟨?_, ?_⟩
  · simp [Oper.about, hop, resolve, Target.leads, Sem.run_pure]
  · rw [Oper.semAt_plain F _ _ (by rw [hop]; intro c hc'; cases hc')]
    simp [execOp, hop, resolve, invoke, builtin, hs, hx, hrun, Result.andThen]
    exact hK' _ _ hK

theorem noClose_any (v0 v1 v2 v3 v4 : Value) (w : World) :
    Calls Tryz.prog 56 #[.agg #[v0, v1, v2, v3, v4]] w fun e w' => e = .returned (.bool false) ∧ Ext w w' := by
  go_enter Tryz.func56, Tryz.ntmps56
  go_wp2
  go_ret
  exact ⟨rfl, ext_alloc (Below.refl _ _) _⟩

def Sp.noClose : PartD → Bool := fun _ => false
/-- body.Types -/
def Sp.types (d : PartD) : List Sp.Bs := if Sp.within d then Lib.compact (((Sp.alls Sp.noClose d).map PartD.type).mergeSort fun x y => decide (x ≤ y)) else []

set_option maxRecDepth 100000 in
set_option maxHeartbeats 4000000 in
theorem types_in {Sub : PartD → Prop} (hS : ∀ d, Sub d → ∀ c ∈ d.parts, Sub c) (hSl : ∀ d, Sub d → d.parts.length ≤ 1000000000) (d : PartD) (v : Value) (w : World) (hs : Sub d) (hv : PartAt w d v) (hin : Sp.within d = true) (hcount : (Sp.alls Sp.noClose d).length ≤ 1000) :
    Calls Tryz.prog 19 #[v] w fun e w' => ∃ a c, e = .returned (.slice a (Sp.types d).length c) ∧ StrsAt w' (.slice a (Sp.types d).length c) (Sp.types d) ∧ Ext w w' := by
  obtain ⟨a0, c0, a2, c2, a4, c4, rfl⟩ := hv.shape
  have hRA := alls_at Sp.noClose d _ hv
  have hRF := alls_fst w Sp.noClose d (.agg #[.slice a0 d.fields.length c0, str d.type, .slice a2 d.params.length c2, str d.body, .slice a4 d.parts.length c4])
  have hC : CloOk Sp.noClose 56 #[] w Sub := ⟨hS, hSl, fun d hd v w' hv hE => by
    obtain ⟨a0, c0, a2, c2, a4, c4, rfl⟩ := hv.shape
    exact noClose_any _ _ _ _ _ w'⟩
  refine (callsIn_wide (n := 0)).1 (callsIn_of_wp_marks Tryz.func19 rfl trivial ?_ rfl)
  simp only [Tryz.ntmps19, List.size_toArray, List.length_cons, List.length_nil, Nat.reduceAdd, Nat.reduceSub, Array.replicate_succ, Array.replicate_zero, List.push_toArray, List.append_toArray, List.nil_append, List.cons_append]
  have hx1 : Ext w (w.alloc (.cells #[.slice a0 d.fields.length c0, str d.type, .slice a2 d.params.length c2, str d.body, .slice a4 d.parts.length c4] 26)) := ext_alloc (Below.refl _ _) _
  gi_wp2_with fail
  refine (callsIn_wide.2 (within_any d _ _ (PartAt.ext hx1 _ _ hv))).mono ?_
  rintro e w2 ⟨rfl, hx2⟩
  rw [hin]
  obtain ⟨b0, b1, b2, b3, b4⟩ := box5 hx2
  have hx2' := ext_trans hx1 hx2
  have hx3 : Ext w2 (w2.alloc (.cells #[.slice none 0 0] 33)) := ext_alloc (Below.refl _ _) _
  replace b0 := cell_ext hx3 b0
  replace b1 := cell_ext hx3 b1
  replace b2 := cell_ext hx3 b2
  replace b3 := cell_ext hx3 b3
  replace b4 := cell_ext hx3 b4
  gi_wp2_with fail
  refine (callsIn_wide.2 (parts_any _ _ _ _ _ _ _ _ _)).mono ?_
  rintro e w3 ⟨rfl, rfl⟩
  gi_wp2_with fail
  have hx4 : Ext w2 (((w2.alloc (.cells #[.slice none 0 0] 33)).alloc (.cells #[.slice a0 d.fields.length c0, str d.type, .slice a2 d.params.length c2, str d.body, .slice a4 d.parts.length c4] 26)).alloc (.cells #[.func (.func 56) #[] #[]] 46)) := ext_alloc (ext_alloc hx3 _) _
  have hpx : (((w2.alloc (.cells #[.slice none 0 0] 33)).alloc (.cells #[.slice a0 d.fields.length c0, str d.type, .slice a2 d.params.length c2, str d.body, .slice a4 d.parts.length c4] 26)).alloc (.cells #[.func (.func 56) #[] #[]] 46)).heap[w2.heap.size + 1]? = some (.cells #[.slice a0 d.fields.length c0, str d.type, .slice a2 d.params.length c2, str d.body, .slice a4 d.parts.length c4] 26 (0, 0)) := by
    have := heap_alloc_new (w2.alloc (.cells #[.slice none 0 0] 33)) (.cells #[.slice a0 d.fields.length c0, str d.type, .slice a2 d.params.length c2, str d.body, .slice a4 d.parts.length c4] 26)
    rw [World.size_alloc] at this
    exact (Below.heap_alloc _ _ _ (by simp)).trans this
  have hcx : (((w2.alloc (.cells #[.slice none 0 0] 33)).alloc (.cells #[.slice a0 d.fields.length c0, str d.type, .slice a2 d.params.length c2, str d.body, .slice a4 d.parts.length c4] 26)).alloc (.cells #[.func (.func 56) #[] #[]] 46)).heap[w2.heap.size + 1 + 1]? = some (.cells #[.func (.func 56) #[] #[]] 46 (0, 0)) := by
    have := heap_alloc_new ((w2.alloc (.cells #[.slice none 0 0] 33)).alloc (.cells #[.slice a0 d.fields.length c0, str d.type, .slice a2 d.params.length c2, str d.body, .slice a4 d.parts.length c4] 26)) (.cells #[.func (.func 56) #[] #[]] 46)
    rw [World.size_alloc, World.size_alloc] at this
    exact this
  have hsz := hx2'.size
  have hI0 : TS w w2.heap.size [] (RP w (w2.heap.size + 1 + 1) (w2.heap.size + 1)) (((w2.alloc (.cells #[.slice none 0 0] 33)).alloc (.cells #[.slice a0 d.fields.length c0, str d.type, .slice a2 d.params.length c2, str d.body, .slice a4 d.parts.length c4] 26)).alloc (.cells #[.func (.func 56) #[] #[]] 46)) := by
    refine ⟨.slice none 0 0, ?_, World.ownsRow_nil _ _ _ _, fun h => by rcases h with h | h | h <;> omega, (fun g e => by cases e), ext_trans hx2' hx4, ?_, hsz⟩
    · exact (Below.heap_alloc _ _ _ (by simp; omega)).trans ((Below.heap_alloc _ _ _ (by simp)).trans (heap_alloc_new w2 _))
    · rintro k (h | h | h) <;> simp <;> omega
  have hit := parts_iter hC (enters_of Tryz.func56 (by kernel_rfl) rfl) (((w2.alloc (.cells #[.slice none 0 0] 33)).alloc (.cells #[.slice a0 d.fields.length c0, str d.type, .slice a2 d.params.length c2, str d.body, .slice a4 d.parts.length c4] 26)).alloc (.cells #[.func (.func 56) #[] #[]] 46)) d _ _ _ _ _ (w2.heap.size + 1 + 1) (w2.heap.size + 1) hs hv (ext_trans hx2' hx4) hpx hcx
  have hxs : ∀ (k : Nat) (x : Value), ((alls w Sp.noClose d (.agg #[.slice a0 d.fields.length c0, str d.type, .slice a2 d.params.length c2, str d.body, .slice a4 d.parts.length c4])).map Prod.snd)[k]? = some x → ∃ q : PartD, (Sp.alls Sp.noClose d)[k]? = some q ∧ PartAt w q x := by
    intro k x hx
    rw [List.getElem?_map] at hx
    obtain ⟨y, hy, rfl⟩ := Option.map_eq_some_iff.1 hx
    have hk : (Sp.alls Sp.noClose d)[k]? = some y.1 := by rw [← hRF, List.getElem?_map, hy]; rfl
    exact ⟨y.1, hk, hRA y (List.mem_of_getElem? hy)⟩
  have hlen : ((alls w Sp.noClose d (.agg #[.slice a0 d.fields.length c0, str d.type, .slice a2 d.params.length c2, str d.body, .slice a4 d.parts.length c4])).map Prod.snd).length = (Sp.alls Sp.noClose d).length := by rw [← hRF, List.length_map, List.length_map]
  generalize hds : Sp.alls Sp.noClose d = ds at *
  generalize (alls w Sp.noClose d (.agg #[.slice a0 d.fields.length c0, str d.type, .slice a2 d.params.length c2, str d.body, .slice a4 d.parts.length c4])).map Prod.snd = xs at *
  have hI0sz := hI0.wext.size
  generalize (((w2.alloc (.cells #[.slice none 0 0] 33)).alloc (.cells #[.slice a0 d.fields.length c0, str d.type, .slice a2 d.params.length c2, str d.body, .slice a4 d.parts.length c4] 26)).alloc (.cells #[.func (.func 56) #[] #[]] 46)) = w4 at *
  refine wp_range2 (gf := 102) (lb := #[.pointer (some ⟨w2.heap.size + 1 + 1, 0, none⟩), .pointer (some ⟨w2.heap.size + 1, 0, none⟩)]) rfl (enters_of Tryz.func102 (by kernel_rfl) rfl) hit (Only.refl _ _)
    ?r1 ?r1 rfl (fun k T W => TS w w2.heap.size ((ds.take k).map PartD.type) T W) (fun _ _ _ => False)
    (TS.abides w _ _ _ hI0.wext.size) (fun _ _ _ _ _ _ h => h.elim) hI0
    (fun x a T W => ∃ b v0 v1 v2 v3 v4, x = .agg #[v0, v1, v2, v3, v4] ∧ a = { tmps := #[.agg #[.slice a0 d.fields.length c0, str d.type, .slice a2 d.params.length c2, str d.body, .slice a4 d.parts.length c4], .pointer (some ⟨w.heap.size, 0, none⟩), .slice none 0 0, .pointer (some ⟨w2.heap.size, 0, none⟩), .pointer (some ⟨b, 0, none⟩), .agg #[.slice a0 d.fields.length c0, str d.type, .slice a2 d.params.length c2, str d.body, .slice a4 d.parts.length c4], .bool true, .bool false, .agg #[.slice a0 d.fields.length c0, str d.type, .slice a2 d.params.length c2, str d.body, .slice a4 d.parts.length c4], .func (.func 102) #[] #[.pointer (some ⟨w2.heap.size + 1 + 1, 0, none⟩), .pointer (some ⟨w2.heap.size + 1, 0, none⟩)], x, undef, undef, undef, undef, undef, undef, undef, undef, undef], defers := [] } ∧ ¬ T b ∧ W.heap[b]? = some (.cells #[v0, v1, v2, v3, v4] 26 (0, 0))) ?pre ?assign ?body ?done ?stop
  case r1 =>
    have := hI0
    obtain ⟨_, _, _, _, _, _, hT, _⟩ := this
    exact hT
  case pre =>
    rintro x a _ T T' W1 W2 ⟨b, v0, v1, v2, v3, v4, rfl, rfl, hb, hbk⟩ hO _ hT'
    have hlt := lt_of_block hbk
    exact ⟨b, v0, v1, v2, v3, v4, rfl, rfl, fun h => (hT' b h).elim hb (fun h => by omega), (hO.block b hlt (fun h => hb h.2)).trans hbk⟩
  case assign =>
    rintro l k x T W K hx hI hK
    obtain ⟨q, hq, hqp⟩ := hxs k x hx
    obtain ⟨a0, c0, a2, c2, a4, c4, rfl⟩ := hqp.shape
    gi_wp2_with fail
    refine hK _ _ (ext_alloc (Below.refl _ _) _) (hI.ext (ext_alloc (Below.refl _ _) _)) ⟨W.heap.size, _, _, _, _, _, rfl, rfl, fun h => ?_, heap_alloc_new _ _⟩
    obtain ⟨_, _, _, _, _, _, hT, _⟩ := hI
    have := hT _ h
    omega
  case body =>
    rintro l k x T W _ hx hI ⟨b, v0, v1, v2, v3, v4, rfl, rfl, hb, hbk⟩
    obtain ⟨q, hq, hqp⟩ := hxs k _ hx
    obtain ⟨a0, c0, a2, c2, a4, c4, he⟩ := hqp.shape
    cases he
    have e1 : W.cell? ⟨b, 1, none⟩ = some (str q.type) := by rw [Lib.cell_of_heap hbk]; rfl
    obtain ⟨sv, hsv⟩ : ∃ sv, W.cell? ⟨w2.heap.size, 0, none⟩ = some sv := by obtain ⟨sv, h2, _⟩ := hI; exact ⟨sv, cell_of_one h2⟩
    have hkd : (ds.take k).length ≤ 1000 := by rw [List.length_take]; omega
    obtain ⟨aa, nn, cc, W6, hrun, hcell6, hfr6, hI6, hO6⟩ := hI.append q.type (by rw [List.length_map]; omega) hsv
    have hnx : (ds.take (k + 1)).map PartD.type = (ds.take k).map PartD.type ++ [q.type] := by rw [List.take_add_one, hq]; simp
    clear hit hxs hI0 hpx hcx hRF hRA hx hC
    gi_wp2_with (gi_at_builtin; refine wpListIn_append_run (by rfl) _ _ 33 (by rfl) _ _ (.slice aa nn cc) W6 (by rfl) (by rfl) hrun ?_)
    exact ⟨hO6, by show TS _ _ ((ds.take (k + 1)).map PartD.type) _ _; rw [hnx]; exact hI6⟩
  case done =>
    rintro D T W hD hTD hI hK
    rw [hlen, List.take_length] at hI
    obtain ⟨sv, h2, hown, t2, hsv, hE, hTs, hws⟩ := hI
    have HT : Hid (Sp.types d = Lib.compact ((ds.map PartD.type).mergeSort fun x y => decide (x ≤ y))) := by
      unfold Hid Sp.types
      rw [hin, hds, if_pos rfl]
    have hne : 0 < (ds.map PartD.type).length := by
      rw [List.length_map, ← hds]
      cases d
      rw [Sp.alls]
      simp
    have hss : (ds.map PartD.type).length ≤ 1000 := by rw [List.length_map]; exact hcount
    generalize ds.map PartD.type = ss at *
    rcases hown.2 with ⟨_, h0⟩ | ⟨g, cap, cur, rfl, hbase, hb, h1, hcap, h3, h4⟩
    · omega
    have tg := hsv g rfl
    have hlt := lt_of_block hb
    have hH : Go.Sort.Holds encStr W g 0 ss.toArray := holds_of_block hb (by simpa using h4)
    have cs := cell_of_one h2
    clear hit hxs hI0 hpx hcx hRF hRA hC
    gi_wp2_with fail
    refine (callsIn_wide.2 (Tryz.slices_Sort_string g 0 cap ss W hH hlt (by omega))).mono ?_
    rintro e W2 ⟨rfl, n, os, hW2⟩
    have hg2 : W.grownBy W2 (some g) := by rw [hW2]; exact grownBy_sorted _
    have hO2 : Only (· = g) W W2 := (Only.refl (· = g) W).grown hg2 (fun k e _ => by cases e; rfl)
    have hb2 : W2.heap[w2.heap.size]? = some (.cells #[.slice (some ⟨g, 0, none⟩) ss.length cap] 33 (0, 0)) := (hO2.block _ (lt_of_block h2) (fun e => tg.2 e.symm)).trans h2
    have cs2 := cell_of_one hb2
    have hK2 : W2.heap[D]? = some (.deferred (some [])) := (hO2.block _ (lt_of_block hK) (fun e => tg.1 (e ▸ hTD))).trans hK
    obtain ⟨ts, hts⟩ : ∃ ts, ts = ss.mergeSort fun x y => decide (x ≤ y) := ⟨_, rfl⟩
    have htl : ts.length = ss.length := by rw [hts]; simp
    have hgc : W2.heap[g]? = some (.cells (Go.Sort.putCells encStr 0 ts.toArray cur) 9 (0, 0)) := by rw [hW2, hts]; exact heap_sorted _ hb
    have hH2 : Go.Sort.Holds encStr W2 g 0 ts.toArray := holds_of_block hgc (take_putCells cur ts (by omega))
    rw [← hts] at HT
    have hE2 : Ext w W2 := hE.trans (hO2.below hE.size (fun k hk e => by omega))
    clear hW2 hts
    gi_wp2_with fail
    rw [← htl]
    refine (callsIn_wide.2 (Tryz.slices_Compact_string g 0 cap ts W2 hH2 (by omega) (by omega))).mono ?_
    rintro e W3 ⟨rfl, n3, hW3⟩
    have hg3 : W2.grownBy W3 (some g) := by
      have := grownBy_sorted (w := W2) (g := g) (n := n3) (os := #[]) (Lib.compact ts ++ List.replicate (ts.length - (Lib.compact ts).length) []).toArray
      rw [Go.Sort.grow_empty] at this
      rw [hW3]; exact this
    have hO3 : Only (· = g) W2 W3 := (Only.refl (· = g) W2).grown hg3 (fun k e _ => by cases e; rfl)
    have hK3 : W3.heap[D]? = some (.deferred (some [])) := (hO3.block _ (lt_of_block hK2) (fun e => tg.1 (e ▸ hTD))).trans hK2
    have hcl : (Lib.compact ts).length ≤ ts.length := Lib.compact_length_le ts
    have hcells : ∀ j x, (Lib.compact ts)[j]? = some x → W3.cell? ⟨g, 0 + j, none⟩ = some (str x) := by
      intro j x hj
      have hjl : j < (Lib.compact ts).length := (List.getElem?_eq_some_iff.1 hj).1
      rw [hW3, Go.Sort.cell?_putRow encStr (Go.Sort.ahead W2 n3) g 0 ts.toArray _ hH2 (by simp; omega) j (by simp; omega)]
      have : (Lib.compact ts ++ List.replicate (ts.length - (Lib.compact ts).length) [])[j]? = some x := by rw [List.getElem?_append_left hjl]; exact hj
      simp [this]
    have hlt3 : g < W3.heap.size := by have := hO2.size; have := hO3.size; omega
    have hE3 : Ext w W3 := hE2.trans (hO3.below hE2.size (fun k hk e => by omega))
    have hgD : g ≠ D := fun e => tg.1 (e ▸ hTD)
    rw [← HT.out] at hcells ⊢
    clear hW3 HT
    gi_wp2
    refine ⟨by simp, .inl ⟨_, _, rfl, run_takeDeferred hK3, ?_⟩⟩
    refine ⟨_, results_tmp rfl _ _ _, some ⟨g, 0, none⟩, cap, rfl, ?_, ?_⟩
    · refine .inr ⟨g, 0, cap, rfl, by simpa using hlt3, fun j x hj => ?_⟩
      refine (World.cell?_of_block (a := ⟨g, 0 + j, none⟩) ?_).trans (hcells j x hj)
      exact (only_putObj (M := fun k => k = D) (Only.refl _ W3) D _ (fun _ => rfl)).block g hlt3 hgD
    · exact hE3.trans ((Only.refl (fun k => k = D) W3).grown (grownBy_putObj' _ D _) (fun k e _ => by cases e; rfl) |>.below hE3.size (fun k hk e => by subst e; omega))
  case stop =>
    rintro D c T W hD hTD h
    exact h.elim

end Go.Proofs.YtjbllanlfgbpkaaGreatDoor
