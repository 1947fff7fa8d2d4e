/- isDocument; documents -/
import Derived.Test.YtjbllanlfgbpkaaGreatDoorTypes2
namespace Go.Proofs.YtjbllanlfgbpkaaGreatDoor
open Go.RowKit

attribute [local go_sem] Oper.semAt_some wide_fn wide_depth round_fn round_depth

def Sp.isDoc (att : PartD → Bool) (d : PartD) : Bool := Sp.kind d.type == 2 || (Sp.kind d.type == 0 && !Sp.readT d.type) || att d
def Sp.closed (att : PartD → Bool) (d : PartD) : Bool := Sp.kind d.type == 0 || Sp.isDoc att d
/-- the documents in a part -/
def Sp.docs (att : PartD → Bool) (d : PartD) : List PartD := (Sp.alls (Sp.closed att) d).filter (Sp.isDoc att)

set_option maxHeartbeats 1000000 in
theorem isDocument_any {att : PartD → Bool} {Sub : PartD → Prop} (hA : AttOk att Sub) (d : PartD) (v : Value) (w : World) (hG : G w) (hd : Sub d) (hv : PartAt w d v) :
    Calls Tryz.prog 108 #[v] w fun e w' => e = .returned (.bool (Sp.isDoc att d)) ∧ Ext w w' := by
  obtain ⟨a0, c0, a2, c2, a4, c4, rfl⟩ := hv.shape
  have hx1 : Ext w (w.alloc (.cells #[.slice a0 d.fields.length c0, str d.type, .slice a2 d.params.length c2, str d.body, .slice a4 d.parts.length c4] 26)) := ext_alloc (Below.refl _ _) _
  have hv1 := PartAt.ext hx1 _ _ hv
  have hG1 := hG.ext hx1
  have HA := Lib.hid (fun w' => hA.2.2 d hd (.agg #[.slice a0 d.fields.length c0, str d.type, .slice a2 d.params.length c2, str d.body, .slice a4 d.parts.length c4]) w')
  have HD : Hid (Sp.isDoc att d = (Sp.kind d.type == 2 || (Sp.kind d.type == 0 && !Sp.readT d.type) || att d)) := Lib.hid rfl
  have c0' : (w.alloc (.cells #[.slice a0 d.fields.length c0, str d.type, .slice a2 d.params.length c2, str d.body, .slice a4 d.parts.length c4] 26)).heap[w.heap.size]? = some (.cells #[.slice a0 d.fields.length c0, str d.type, .slice a2 d.params.length c2, str d.body, .slice a4 d.parts.length c4] 26 (0, 0)) := heap_alloc_new _ _
  go_enter Tryz.func108, Tryz.ntmps108
  go_wp2_with fail
  refine (kind_any _ _ _ _ _ _).mono ?_
  rintro e w2 ⟨rfl, hx2⟩
  have hb2 := (hx2.block _ (lt_of_block c0')).trans c0'
  have b0 : w2.cell? ⟨w.heap.size, 0, none⟩ = some (.slice a0 d.fields.length c0) := by rw [Lib.cell_of_heap hb2]; rfl
  have b1 : w2.cell? ⟨w.heap.size, 1, none⟩ = some (str d.type) := by rw [Lib.cell_of_heap hb2]; rfl
  have b2 : w2.cell? ⟨w.heap.size, 2, none⟩ = some (.slice a2 d.params.length c2) := by rw [Lib.cell_of_heap hb2]; rfl
  have b3 : w2.cell? ⟨w.heap.size, 3, none⟩ = some (str d.body) := by rw [Lib.cell_of_heap hb2]; rfl
  have b4 : w2.cell? ⟨w.heap.size, 4, none⟩ = some (.slice a4 d.parts.length c4) := by rw [Lib.cell_of_heap hb2]; rfl
  have hv2 := PartAt.ext hx2 _ _ hv1
  have hG2 := hG1.ext hx2
  have hxx := ext_trans hx1 hx2
  rcases Sp.kind_cases d.type with hk | hk | hk
  · rw [hk] at HD ⊢
    go_wp2_with fail
    refine (readableType_any _ _).mono ?_
    rintro e w3 ⟨rfl, rfl⟩
    simp only [List.toList_toArray]
    cases hr : Sp.readT d.type with
    | false =>
      rw [hr] at HD
      clear HA
      go_wp2_with fail
      go_ret
      rw [HD.out]
      exact ⟨rfl, hxx⟩
    | true =>
      rw [hr] at HD
      go_wp2_with fail
      refine (HA.out _ hv2 hG2).mono ?_
      rintro e w4 ⟨rfl, hx4⟩
      clear HA
      go_wp2_with fail
      go_ret
      rw [HD.out]
      exact ⟨rfl, ext_trans hxx hx4⟩
  · rw [hk] at HD ⊢
    go_wp2_with fail
    refine (HA.out _ hv2 hG2).mono ?_
    rintro e w4 ⟨rfl, hx4⟩
    clear HA
    go_wp2_with fail
    go_ret
    rw [HD.out]
    exact ⟨rfl, ext_trans hxx hx4⟩
  · rw [hk] at HD ⊢
    clear HA
    go_wp2_with fail
    go_ret
    rw [HD.out]
    exact ⟨rfl, hxx⟩

set_option maxHeartbeats 1000000 in
theorem closed_any {att : PartD → Bool} {Sub : PartD → Prop} (hA : AttOk att Sub) (d : PartD) (v : Value) (w : World) (hG : G w) (hd : Sub d) (hv : PartAt w d v) :
    Calls Tryz.prog 107 #[v] w fun e w' => e = .returned (.bool (Sp.closed att d)) ∧ Ext w w' := by
  obtain ⟨a0, c0, a2, c2, a4, c4, rfl⟩ := hv.shape
  have hx1 : Ext w (w.alloc (.cells #[.slice a0 d.fields.length c0, str d.type, .slice a2 d.params.length c2, str d.body, .slice a4 d.parts.length c4] 26)) := ext_alloc (Below.refl _ _) _
  have hv1 := PartAt.ext hx1 _ _ hv
  have hG1 := hG.ext hx1
  have HA := Lib.hid (fun w' => isDocument_any hA d (.agg #[.slice a0 d.fields.length c0, str d.type, .slice a2 d.params.length c2, str d.body, .slice a4 d.parts.length c4]) w')
  have HD : Hid (Sp.closed att d = (Sp.kind d.type == 0 || Sp.isDoc att d)) := Lib.hid rfl
  have c0' : (w.alloc (.cells #[.slice a0 d.fields.length c0, str d.type, .slice a2 d.params.length c2, str d.body, .slice a4 d.parts.length c4] 26)).heap[w.heap.size]? = some (.cells #[.slice a0 d.fields.length c0, str d.type, .slice a2 d.params.length c2, str d.body, .slice a4 d.parts.length c4] 26 (0, 0)) := heap_alloc_new _ _
  go_enter Tryz.func107, Tryz.ntmps107
  go_wp2_with fail
  refine (kind_any _ _ _ _ _ _).mono ?_
  rintro e w2 ⟨rfl, hx2⟩
  have hb2 := (hx2.block _ (lt_of_block c0')).trans c0'
  have b0 : w2.cell? ⟨w.heap.size, 0, none⟩ = some (.slice a0 d.fields.length c0) := by rw [Lib.cell_of_heap hb2]; rfl
  have b1 : w2.cell? ⟨w.heap.size, 1, none⟩ = some (str d.type) := by rw [Lib.cell_of_heap hb2]; rfl
  have b2 : w2.cell? ⟨w.heap.size, 2, none⟩ = some (.slice a2 d.params.length c2) := by rw [Lib.cell_of_heap hb2]; rfl
  have b3 : w2.cell? ⟨w.heap.size, 3, none⟩ = some (str d.body) := by rw [Lib.cell_of_heap hb2]; rfl
  have b4 : w2.cell? ⟨w.heap.size, 4, none⟩ = some (.slice a4 d.parts.length c4) := by rw [Lib.cell_of_heap hb2]; rfl
  have hv2 := PartAt.ext hx2 _ _ hv1
  have hG2 := hG1.ext hx2
  have hxx := ext_trans hx1 hx2
  have hk0 : ∀ n : Nat, (n == 0) = decide ((n : Int) = 0) := by intro n; cases n <;> simp <;> omega
  cases hk : (Sp.kind d.type == 0) with
  | true =>
    rw [hk] at HD
    rw [beq_iff_eq] at hk
    rw [hk]
    clear HA
    go_wp2_with fail
    go_ret
    rw [HD.out]
    exact ⟨rfl, hxx⟩
  | false =>
    rw [hk] at HD
    have hk2 : ¬ ((Sp.kind d.type : Nat) : Int) = 0 := by
      rw [beq_eq_false_iff_ne] at hk
      omega
    have hk3 : (((Sp.kind d.type : Nat) : Int) == 0) = false := by rw [beq_eq_false_iff_ne]; exact hk2
    generalize Sp.kind d.type = kk at *
    go_wp2_with fail
    refine (HA.out _ hG2 hd hv2).mono ?_
    rintro e w4 ⟨rfl, hx4⟩
    clear HA
    go_wp2_with fail
    go_ret
    rw [HD.out]
    exact ⟨rfl, ext_trans hxx hx4⟩

theorem documents_any (v0 v1 v2 v3 v4 : Value) (w : World) :
    Calls Tryz.prog 59 #[.agg #[v0, v1, v2, v3, v4]] w fun e w' => e = .returned (.func (.func 106) #[] #[.pointer (some ⟨w.heap.size, 0, none⟩)]) ∧ w' = w.alloc (.cells #[v0, v1, v2, v3, v4] 26) := by
  go_enter Tryz.func59, Tryz.ntmps59
  go_wp2
  go_ret
  exact ⟨rfl, rfl⟩

/-! ### the documents, one behind the other -/
mutual
theorem alls_sub {clo : PartD → Bool} {Sub : PartD → Prop} (hS : ∀ d, Sub d → ∀ c ∈ d.parts, Sub c) : ∀ (d : PartD), Sub d → ∀ x ∈ Sp.alls clo d, Sub x
  | .mk f t p b q, h => by
    rw [Sp.alls]
    intro x hx
    rcases List.mem_cons.1 hx with rfl | hx
    · exact h
    · split at hx
      · cases hx
      · exact allsL_sub hS q (fun c hc => hS _ h c hc) x hx
theorem allsL_sub {clo : PartD → Bool} {Sub : PartD → Prop} (hS : ∀ d, Sub d → ∀ c ∈ d.parts, Sub c) : ∀ (q : List PartD), (∀ c ∈ q, Sub c) → ∀ x ∈ Sp.allsL clo q, Sub x
  | [], _ => by rw [Sp.allsL]; intro x hx; cases hx
  | d :: q, h => by
    rw [Sp.allsL]
    intro x hx
    rcases List.mem_append.1 hx with hx | hx
    · exact alls_sub hS d (h d (by simp)) x hx
    · exact allsL_sub hS q (fun c hc => h c (by simp [hc])) x hx
end
theorem filter_take {α : Type} (p : α → Bool) (l : List α) (k : Nat) (x : α) (h : l[k]? = some x) (hp : p x = true) : (l.filter p)[((l.take k).filter p).length]? = some x := by
  have hk := (List.getElem?_eq_some_iff.1 h)
  obtain ⟨hlt, hx⟩ := hk
  have e : l = l.take k ++ x :: l.drop (k + 1) := by
    rw [← hx, ← List.drop_eq_getElem_cons hlt, List.take_append_drop]
  have e2 : l.filter p = (l.take k).filter p ++ x :: (l.drop (k + 1)).filter p := by
    conv => lhs; rw [e]
    rw [List.filter_append, List.filter_cons, if_pos hp]
  rw [e2, List.getElem?_append_right (Nat.le_refl _), Nat.sub_self]
  rfl
theorem filter_take_succ {α : Type} (p : α → Bool) (l : List α) (k : Nat) (x : α) (h : l[k]? = some x) : ((l.take (k + 1)).filter p).length = ((l.take k).filter p).length + (if p x then 1 else 0) := by
  rw [List.take_add_one, h, List.filter_append, List.length_append]
  cases hp : p x <;> simp [hp]

def docsAt (w : World) (att : PartD → Bool) (d : PartD) (v : Value) : List (PartD × Value) := (alls w (Sp.closed att) d v).filter (fun x => Sp.isDoc att x.1)
theorem docs_fst (w : World) (att : PartD → Bool) (d : PartD) (v : Value) : (docsAt w att d v).map Prod.fst = Sp.docs att d := by
  unfold docsAt Sp.docs
  rw [← alls_fst w (Sp.closed att) d v, List.filter_map]
  rfl

/-- what the rounds of documents$1 keep -/
def DI (J : Nat → BSet → World → Prop) (wB : World) (l yb pb : Nat) (cnt : Nat → Nat) (k : Nat) (T : BSet) (W : World) : Prop :=
  J (cnt k) (fun b => T b ∨ b = pb ∨ b = yb) W ∧ Ext wB W ∧ (∀ b, b < wB.heap.size → T b) ∧ ¬ T yb ∧ W.heap[yb]? = some (.cells #[.func (.yield l) #[] #[]] 46 (0, 0)) ∧ ∀ b, T b → b < W.heap.size
theorem DI.abides {J : Nat → BSet → World → Prop} {wB : World} {l yb pb B0 B : Nat} {cnt : Nat → Nat} (hJ : Abides B0 J) (hB : B0 ≤ B) (hwB : wB.heap.size ≤ B) (hpb : pb < B) : Abides B (DI J wB l yb pb cnt) := by
  rintro k T T' W1 W2 ⟨h1, h2, h3, h4, h5, h6⟩ hO hT hT'
  have hlt := lt_of_block h5
  refine ⟨hJ (cnt k) _ _ W1 W2 h1 (hO.mono (fun b _ h => ⟨by omega, .inl h.2⟩)) (fun b h => h.imp (hT b) id) (fun b h => h.elim (fun h => (hT' b h).imp .inl id) (fun h => .inl (.inr h))), ?_, fun b hb => hT b (h3 b hb), fun h => (hT' _ h).elim h4 (fun h => by omega), (hO.block yb hlt (fun h => h4 h.2)).trans h5, fun b hb => (hT' b hb).elim (fun h => Nat.lt_of_lt_of_le (h6 b h) hO.size) (fun h => h.2)⟩
  exact h2.trans (hO.below h2.size (fun k hk h => by omega))
theorem DI.ext {J : Nat → BSet → World → Prop} {wB : World} {l yb pb B0 : Nat} {cnt : Nat → Nat} (hJ : Abides B0 J) {k : Nat} {T : BSet} {W1 W2 : World} (h : DI J wB l yb pb cnt k T W1) (hx : Ext W1 W2) : DI J wB l yb pb cnt k T W2 := by
  obtain ⟨h1, h2, h3, h4, h5, h6⟩ := h
  exact ⟨hJ (cnt k) _ _ W1 W2 h1 (Only.of_ext hx) (fun _ h => h) (fun _ h => .inl h), ext_trans h2 hx, h3, h4, (hx.block yb (lt_of_block h5)).trans h5, fun b hb => Nat.lt_of_lt_of_le (h6 b hb) hx.size⟩

set_option maxRecDepth 100000 in
set_option maxHeartbeats 4000000 in
theorem documents_iter {att : PartD → Bool} {Sub : PartD → Prop} (hA : AttOk att Sub) (wB w0 : World) (d : PartD) (v0 v1 v2 v3 v4 : Value) (pb : Nat) (hG : G wB) (hs : Sub d) (hv : PartAt wB d (.agg #[v0, v1, v2, v3, v4])) (hE : Ext wB w0)
    (hp : w0.heap[pb]? = some (.cells #[v0, v1, v2, v3, v4] 26 (0, 0))) :
    Iter 106 #[.pointer (some ⟨pb, 0, none⟩)] ((docsAt wB att d (.agg #[v0, v1, v2, v3, v4])).map Prod.snd) (RB wB pb) w0 := by
  intro l J Jx W hO hJ hJx hYd h0
  obtain ⟨a0, c0, a2, c2, a4, c4, hsh⟩ := hv.shape
  cases hsh
  have hpW : W.heap[pb]? = some (.cells #[.slice a0 d.fields.length c0, str d.type, .slice a2 d.params.length c2, str d.body, .slice a4 d.parts.length c4] 26 (0, 0)) := (hO.block pb (lt_of_block hp) (fun h => h (.inr rfl))).trans hp
  have hEW : Ext wB W := hE.trans (hO.below hE.size (fun k hk h => h (.inl hk)))
  have hpl := lt_of_block hpW
  have hC : CloOk (Sp.closed att) 107 #[] wB Sub := ⟨hA.1, hA.2.1, fun d hd v w' hv hE => closed_any hA d v w' (hG.ext hE) hd hv⟩
  have hRA := alls_at (Sp.closed att) d _ hv
  have hx1 : Ext W (W.alloc (.cells #[.func (.yield l) #[] #[]] 46)) := ext_alloc (Below.refl _ _) _
  have p0 : W.cell? ⟨pb, 0, none⟩ = some (.slice a0 d.fields.length c0) := by rw [Lib.cell_of_heap hpW]; rfl
  have p1 : W.cell? ⟨pb, 1, none⟩ = some (str d.type) := by rw [Lib.cell_of_heap hpW]; rfl
  have p2 : W.cell? ⟨pb, 2, none⟩ = some (.slice a2 d.params.length c2) := by rw [Lib.cell_of_heap hpW]; rfl
  have p3 : W.cell? ⟨pb, 3, none⟩ = some (str d.body) := by rw [Lib.cell_of_heap hpW]; rfl
  have p4 : W.cell? ⟨pb, 4, none⟩ = some (.slice a4 d.parts.length c4) := by rw [Lib.cell_of_heap hpW]; rfl
  replace p0 := cell_ext hx1 p0
  replace p1 := cell_ext hx1 p1
  replace p2 := cell_ext hx1 p2
  replace p3 := cell_ext hx1 p3
  replace p4 := cell_ext hx1 p4
  refine callsIn_of_wp_marks Tryz.func106 rfl trivial ?_ rfl
  simp only [Tryz.ntmps106, List.size_toArray, List.length_cons, List.length_nil, Nat.reduceAdd, Nat.reduceSub, Array.replicate_succ, Array.replicate_zero, List.push_toArray, List.append_toArray, List.nil_append, List.cons_append]
  gi_wp2_with fail
  refine (callsIn_wide.2 (parts_any _ _ _ _ _ _ _ _ _)).mono ?_
  rintro e w3 ⟨rfl, rfl⟩
  gi_wp2_with fail
  have hx4 : Ext W (((W.alloc (.cells #[.func (.yield l) #[] #[]] 46)).alloc (.cells #[.slice a0 d.fields.length c0, str d.type, .slice a2 d.params.length c2, str d.body, .slice a4 d.parts.length c4] 26)).alloc (.cells #[.func (.func 107) #[] #[]] 46)) := ext_alloc (ext_alloc hx1 _) _
  have hyb : (((W.alloc (.cells #[.func (.yield l) #[] #[]] 46)).alloc (.cells #[.slice a0 d.fields.length c0, str d.type, .slice a2 d.params.length c2, str d.body, .slice a4 d.parts.length c4] 26)).alloc (.cells #[.func (.func 107) #[] #[]] 46)).heap[W.heap.size]? = some (.cells #[.func (.yield l) #[] #[]] 46 (0, 0)) :=
    (Below.heap_alloc _ _ _ (by simp; omega)).trans ((Below.heap_alloc _ _ _ (by simp)).trans (heap_alloc_new W _))
  have hpx : (((W.alloc (.cells #[.func (.yield l) #[] #[]] 46)).alloc (.cells #[.slice a0 d.fields.length c0, str d.type, .slice a2 d.params.length c2, str d.body, .slice a4 d.parts.length c4] 26)).alloc (.cells #[.func (.func 107) #[] #[]] 46)).heap[W.heap.size + 1]? = some (.cells #[.slice a0 d.fields.length c0, str d.type, .slice a2 d.params.length c2, str d.body, .slice a4 d.parts.length c4] 26 (0, 0)) := by
    have := heap_alloc_new (W.alloc (.cells #[.func (.yield l) #[] #[]] 46)) (.cells #[.slice a0 d.fields.length c0, str d.type, .slice a2 d.params.length c2, str d.body, .slice a4 d.parts.length c4] 26)
    rw [World.size_alloc] at this
    exact (Below.heap_alloc _ _ _ (by simp)).trans this
  have hcx : (((W.alloc (.cells #[.func (.yield l) #[] #[]] 46)).alloc (.cells #[.slice a0 d.fields.length c0, str d.type, .slice a2 d.params.length c2, str d.body, .slice a4 d.parts.length c4] 26)).alloc (.cells #[.func (.func 107) #[] #[]] 46)).heap[W.heap.size + 1 + 1]? = some (.cells #[.func (.func 107) #[] #[]] 46 (0, 0)) := by
    have := heap_alloc_new ((W.alloc (.cells #[.func (.yield l) #[] #[]] 46)).alloc (.cells #[.slice a0 d.fields.length c0, str d.type, .slice a2 d.params.length c2, str d.body, .slice a4 d.parts.length c4] 26)) (.cells #[.func (.func 107) #[] #[]] 46)
    rw [World.size_alloc, World.size_alloc] at this
    exact this
  have hsz4 : (((W.alloc (.cells #[.func (.yield l) #[] #[]] 46)).alloc (.cells #[.slice a0 d.fields.length c0, str d.type, .slice a2 d.params.length c2, str d.body, .slice a4 d.parts.length c4] 26)).alloc (.cells #[.func (.func 107) #[] #[]] 46)).heap.size = W.heap.size + 3 := by simp
  have hEs := hEW.size
  have hit := parts_iter hC (enters_of Tryz.func107 (by kernel_rfl) rfl) (((W.alloc (.cells #[.func (.yield l) #[] #[]] 46)).alloc (.cells #[.slice a0 d.fields.length c0, str d.type, .slice a2 d.params.length c2, str d.body, .slice a4 d.parts.length c4] 26)).alloc (.cells #[.func (.func 107) #[] #[]] 46)) d _ _ _ _ _ (W.heap.size + 1 + 1) (W.heap.size + 1) hs hv (ext_trans hEW hx4) hpx hcx
  obtain ⟨xs0, hxs0⟩ : ∃ xs0, xs0 = alls wB (Sp.closed att) d (.agg #[.slice a0 d.fields.length c0, str d.type, .slice a2 d.params.length c2, str d.body, .slice a4 d.parts.length c4]) := ⟨_, rfl⟩
  have hdocs : docsAt wB att d (.agg #[.slice a0 d.fields.length c0, str d.type, .slice a2 d.params.length c2, str d.body, .slice a4 d.parts.length c4]) = xs0.filter (fun x => Sp.isDoc att x.1) := by rw [hxs0]; rfl
  rw [← hxs0] at hit hRA
  have hSubAll : ∀ x ∈ xs0, Sub x.1 := by
    intro x hx
    have : x.1 ∈ Sp.alls (Sp.closed att) d := by rw [← alls_fst wB (Sp.closed att) d, ← hxs0]; exact List.mem_map_of_mem hx
    exact alls_sub hA.1 d hs _ this
  rw [hdocs] at hYd
  have HDO := Lib.hid hdocs
  have HYD := Lib.hid hYd
  have hJ0 : J 0 (fun b => RP wB (W.heap.size + 1 + 1) (W.heap.size + 1) b ∨ b = pb ∨ b = W.heap.size) (((W.alloc (.cells #[.func (.yield l) #[] #[]] 46)).alloc (.cells #[.slice a0 d.fields.length c0, str d.type, .slice a2 d.params.length c2, str d.body, .slice a4 d.parts.length c4] 26)).alloc (.cells #[.func (.func 107) #[] #[]] 46)) := by
    refine hJ 0 _ _ W _ h0 (Only.of_ext hx4) ?_ ?_
    · rintro b (h | h)
      · exact .inl (.inl h)
      · exact .inr (.inl h)
    · rw [hsz4]
      rintro b ((h | h | h) | h | h)
      · exact .inl (.inl h)
      · right; omega
      · right; omega
      · exact .inl (.inr h)
      · right; omega
  have hx04 := ext_trans hEW hx4
  clear hxs0 hYd hdocs hC h0 hO hp hE hv p0 p1 p2 p3 p4
  generalize (((W.alloc (.cells #[.func (.yield l) #[] #[]] 46)).alloc (.cells #[.slice a0 d.fields.length c0, str d.type, .slice a2 d.params.length c2, str d.body, .slice a4 d.parts.length c4] 26)).alloc (.cells #[.func (.func 107) #[] #[]] 46)) = w4 at *
  have hpp : ∀ (k : Nat) (x : Value), (xs0.map Prod.snd)[k]? = some x → ∃ q : PartD, xs0[k]? = some (q, x) ∧ Sub q ∧ PartAt wB q x := by
    intro k x hx
    rw [List.getElem?_map] at hx
    obtain ⟨y, hy, rfl⟩ := Option.map_eq_some_iff.1 hx
    exact ⟨y.1, hy, hSubAll y (List.mem_of_getElem? hy), hRA y (List.mem_of_getElem? hy)⟩
  refine wp_range2 (gf := 102) (lb := #[.pointer (some ⟨W.heap.size + 1 + 1, 0, none⟩), .pointer (some ⟨W.heap.size + 1, 0, none⟩)]) rfl (enters_of Tryz.func102 (by kernel_rfl) rfl) hit (Only.refl _ _)
    ?r1 ?r1 rfl (DI J wB l W.heap.size pb (fun k => ((xs0.take k).filter (fun x => Sp.isDoc att x.1)).length)) (fun c T W' => c = .ret ∧ Jx (fun b => T b ∨ b = pb ∨ b = W.heap.size) W')
    (DI.abides hJ (by omega) (by omega) (by omega)) ?hix ⟨hJ0, hx04, fun b hb => .inl hb, fun h => by rcases h with h | h | h <;> omega, hyb, fun b h => by rcases h with h | h | h <;> omega⟩
    (fun x a T W1 => ∃ b v0 v1 v2 v3 v4, x = .agg #[v0, v1, v2, v3, v4] ∧ a = { tmps := #[.func (.yield l) #[] #[], .pointer (some ⟨pb, 0, none⟩), .pointer (some ⟨W.heap.size, 0, none⟩), .func (.func 107) #[] #[], .pointer (some ⟨b, 0, none⟩), .agg #[.slice a0 d.fields.length c0, str d.type, .slice a2 d.params.length c2, str d.body, .slice a4 d.parts.length c4], .func (.func 107) #[] #[], .func (.func 102) #[] #[.pointer (some ⟨W.heap.size + 1 + 1, 0, none⟩), .pointer (some ⟨W.heap.size + 1, 0, none⟩)], x, undef, undef, undef, undef, undef, undef, undef, undef], defers := [] } ∧ ¬ T b ∧ W1.heap[b]? = some (.cells #[v0, v1, v2, v3, v4] 26 (0, 0))) ?pre ?assign ?body ?done ?stop
  case r1 =>
    rintro b (h | h | h) <;> omega
  case hix =>
    rintro c ⟨⟩ T T' W1 W2 ⟨hc, hj⟩ hO hT hT'
    exact ⟨hc, hJx () _ _ W1 W2 hj (hO.mono (fun b _ h => ⟨by omega, .inl h.2⟩)) (fun b h => h.imp (hT b) id) (fun b h => h.elim (fun h => (hT' b h).imp .inl id) (fun h => .inl (.inr h)))⟩
  case pre =>
    rintro x a _ T T' W1 W2 ⟨b, v0, v1, v2, v3, v4, rfl, rfl, hb, hbk⟩ hO _ hT'
    have hlt := lt_of_block hbk
    exact ⟨b, v0, v1, v2, v3, v4, rfl, rfl, fun h => (hT' b h).elim hb (fun h => by omega), (hO.block b hlt (fun h => hb h.2)).trans hbk⟩
  case assign =>
    rintro l2 k x T W1 K hx hI hK
    obtain ⟨q, hq, hqs, hqp⟩ := hpp k x hx
    obtain ⟨a0, c0, a2, c2, a4, c4, rfl⟩ := hqp.shape
    gi_wp2_with fail
    refine hK _ _ (ext_alloc (Below.refl _ _) _) (hI.ext hJ (ext_alloc (Below.refl _ _) _)) ⟨W1.heap.size, _, _, _, _, _, rfl, rfl, fun h => ?_, heap_alloc_new _ _⟩
    obtain ⟨_, _, _, _, _, h6⟩ := hI
    have := h6 _ h
    omega
  case body =>
    rintro l2 k x T W1 _ hx hI ⟨b, v0, v1, v2, v3, v4, rfl, rfl, hb, hbk⟩
    obtain ⟨q, hq, hqs, hqp⟩ := hpp k _ hx
    obtain ⟨a0, c0, a2, c2, a4, c4, he⟩ := hqp.shape
    cases he
    have hc1 := filter_take_succ (fun x : PartD × Value => Sp.isDoc att x.1) xs0 k _ hq
    simp only at hc1
    have hc2 := filter_take (fun x : PartD × Value => Sp.isDoc att x.1) xs0 k _ hq
    have hxd : Sp.isDoc att q = true → ((xs0.filter (fun x => Sp.isDoc att x.1)).map Prod.snd)[((xs0.take k).filter (fun x => Sp.isDoc att x.1)).length]? = some (.agg #[.slice a0 q.fields.length c0, str q.type, .slice a2 q.params.length c2, str q.body, .slice a4 q.parts.length c4]) := by
      intro h
      rw [List.getElem?_map, hc2 h]
      rfl
    have HI := Lib.hid hI
    obtain ⟨h1, h2, h3, h4, h5, h6⟩ := hI
    have b0 : W1.cell? ⟨b, 0, none⟩ = some (.slice a0 q.fields.length c0) := by rw [Lib.cell_of_heap hbk]; rfl
    have b1 : W1.cell? ⟨b, 1, none⟩ = some (str q.type) := by rw [Lib.cell_of_heap hbk]; rfl
    have b2 : W1.cell? ⟨b, 2, none⟩ = some (.slice a2 q.params.length c2) := by rw [Lib.cell_of_heap hbk]; rfl
    have b3 : W1.cell? ⟨b, 3, none⟩ = some (str q.body) := by rw [Lib.cell_of_heap hbk]; rfl
    have b4 : W1.cell? ⟨b, 4, none⟩ = some (.slice a4 q.parts.length c4) := by rw [Lib.cell_of_heap hbk]; rfl
    have HDOC := Lib.hid (isDocument_any hA q _ W1 (hG.ext h2) hqs (PartAt.ext h2 _ _ hqp))
    have hbl := lt_of_block hbk
    clear hit hpp hRA hSubAll hx hc2 hq hqp hA h1 h3 h6
    gi_wp2_with fail
    refine (CallsIn.inRound l2 (callsIn_wide.2 HDOC.out)).mono ?_
    rintro e W2 ⟨rfl, hx2⟩
    clear HDOC
    have hI2 := DI.ext hJ HI.out hx2
    clear HI
    cases hdoc : Sp.isDoc att q with
    | false =>
      rw [hdoc] at hc1
      clear hxd HYD
      gi_wp2_with fail
      refine ⟨Only.of_ext hx2, ?_⟩
      have e : ((xs0.take (k + 1)).filter (fun x => Sp.isDoc att x.1)).length = ((xs0.take k).filter (fun x => Sp.isDoc att x.1)).length := by rw [hc1]; rfl
      refine ⟨?_, hI2.2⟩
      have h := hI2.1
      simp only at h ⊢
      rw [e]
      exact h
    | true =>
      rw [hdoc] at hc1
      obtain ⟨j1, j2, j3, j4, j5, j6⟩ := hI2
      obtain ⟨fn, tmps, assign, body, hy, hR⟩ := HYD.out _ _ _ W2 (hxd hdoc) j1
      clear HYD hxd
      have y0 : W2.cell? ⟨W.heap.size, 0, none⟩ = some (.func (.yield l) #[] #[]) := cell_of_one j5
      replace b0 := cell_ext hx2 b0
      replace b1 := cell_ext hx2 b1
      replace b2 := cell_ext hx2 b2
      replace b3 := cell_ext hx2 b3
      replace b4 := cell_ext hx2 b4
      gi_wp2_with fail
      refine hR.mono ?_
      rintro e W3 ⟨hO3, (⟨rfl, hj3⟩ | ⟨rfl, hj3⟩)⟩
      · have hOT : Only (fun b => ¬ T b) W1 W3 := (Only.of_ext hx2).trans (hO3.mono (fun b _ h hT => h (.inl hT))) (fun _ _ h => h)
        have hI3 : DI J wB l W.heap.size pb (fun k => ((xs0.take k).filter (fun x => Sp.isDoc att x.1)).length) (k + 1) T W3 := by
          refine ⟨?_, j2.trans (hO3.below j2.size (fun k hk h => h (.inl (j3 k hk)))), j3, j4, (hO3.block _ (lt_of_block j5) (fun h => h (.inr (.inr rfl)))).trans j5, fun b hb => Nat.lt_of_lt_of_le (j6 b hb) hO3.size⟩
          simp only at hj3 ⊢
          rw [hc1]
          exact hj3
        clear hc1 j1 j2 j3 j4 j5 j6 hj3
        gi_wp2_with fail
        exact ⟨hOT, hI3⟩
      · have hOT : Only (fun b => ¬ T b) W1 W3 := (Only.of_ext hx2).trans (hO3.mono (fun b _ h hT => h (.inl hT))) (fun _ _ h => h)
        clear hc1 j1 j2 j3 j4 j5 j6
        gi_wp2_with fail
        exact ⟨hOT, rfl, hj3⟩
  case done =>
    rintro D T W1 hD hTD hI hK
    obtain ⟨j1, j2, j3, j4, j5, j6⟩ := hI
    simp only [List.length_map, List.take_length] at j1
    have j7 := hJ.putObj (.deferred none) j1 (show W.heap.size ≤ D by omega) (.inl hTD)
    clear hit hpp hRA hSubAll hA j1 j2 j3 j4 j5 j6 HYD
    gi_wp2_with fail
    refine ⟨by simp, .inl ⟨_, _, rfl, run_takeDeferred hK, ?_⟩⟩
    refine ⟨_, results_none rfl _ _ _, ⟨_, rfl⟩, (fun b => T b ∨ b = pb ∨ b = W.heap.size), .inl ?_⟩
    rw [HDO.out, List.length_map]
    exact j7
  case stop =>
    rintro D c T W1 hD hTD ⟨rfl, hj⟩ hK
    have j7 := hJx.putObj (k := ()) (.deferred none) hj (show W.heap.size ≤ D by omega) (.inl hTD)
    clear hit hpp hRA hSubAll hA HYD
    gi_wp2_with fail
    refine ⟨by simp, .inl ⟨_, _, rfl, run_takeDeferred hK, ?_⟩⟩
    exact ⟨_, results_none rfl _ _ _, ⟨_, rfl⟩, (fun b => T b ∨ b = pb ∨ b = W.heap.size), .inr j7⟩

end Go.Proofs.YtjbllanlfgbpkaaGreatDoor
