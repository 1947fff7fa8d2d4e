/- Parts in memory; body.kind, readableType, within -/
import Derived.Test.YtjbllanlfgbpkaaGreatDoorHtml4
namespace Go.Proofs.YtjbllanlfgbpkaaGreatDoor
open Go.RowKit

/-- A part. -/
inductive PartD where
  | mk (fields : List (Sp.Bs × Sp.Bs)) (type : Sp.Bs) (params : List (Sp.Bs × Sp.Bs)) (body : Sp.Bs) (parts : List PartD)
namespace PartD
def fields : PartD → List (Sp.Bs × Sp.Bs) | mk f _ _ _ _ => f
def type : PartD → Sp.Bs | mk _ t _ _ _ => t
def params : PartD → List (Sp.Bs × Sp.Bs) | mk _ _ p _ _ => p
def body : PartD → Sp.Bs | mk _ _ _ b _ => b
def parts : PartD → List PartD | mk _ _ _ _ q => q
end PartD

/-- v is a slice that reads as the pairs l (fields, params): two cells each. -/
def PairsAt (w : World) (v : Value) (l : List (Sp.Bs × Sp.Bs)) : Prop :=
  ∃ a c, v = .slice a l.length c ∧ ∀ j x, l[j]? = some x → ∃ g o, a = some ⟨g, o, none⟩ ∧ w.cell? ⟨g, o + j * 2, none⟩ = some (str x.1) ∧ w.cell? ⟨g, o + j * 2 + 1, none⟩ = some (str x.2)

mutual
/-- v is a part that reads as d. -/
def PartAt (w : World) : PartD → Value → Prop
  | .mk f t p b q, v => ∃ vf vp a c, v = .agg #[vf, str t, vp, str b, .slice a q.length c] ∧ q.length ≤ c ∧ PairsAt w vf f ∧ PairsAt w vp p ∧ PartsAt w q a 0
/-- from the n-th element of what a points at the parts q lie -/
def PartsAt (w : World) : List PartD → Option Addr → Nat → Prop
  | [], _, _ => True
  | d :: q, a, n => (∃ g o v0 v1 v2 v3 v4, a = some ⟨g, o, none⟩ ∧ w.cell? ⟨g, o + n * 5, none⟩ = some v0 ∧ w.cell? ⟨g, o + n * 5 + 1, none⟩ = some v1 ∧ w.cell? ⟨g, o + n * 5 + 2, none⟩ = some v2 ∧ w.cell? ⟨g, o + n * 5 + 3, none⟩ = some v3 ∧ w.cell? ⟨g, o + n * 5 + 4, none⟩ = some v4 ∧ PartAt w d (.agg #[v0, v1, v2, v3, v4])) ∧ PartsAt w q a (n + 1)
end

theorem cell_lt {w : World} {g o : Nat} {v : Value} (h : w.cell? ⟨g, o, none⟩ = some v) : g < w.heap.size := by
  rcases Nat.lt_or_ge g w.heap.size with hlt | hge
  · exact hlt
  · unfold World.cell? at h
    simp [Array.getElem?_eq_none hge] at h
theorem cell_ext {w w' : World} (hx : Ext w w') {g o : Nat} {v : Value} (h : w.cell? ⟨g, o, none⟩ = some v) : w'.cell? ⟨g, o, none⟩ = some v :=
  (hx.cell (p := ⟨g, o, none⟩) (cell_lt h)).trans h
/-- Every block of two cells or more lies as it did. -/
def Keeps (w w' : World) : Prop := ∀ g o v, w.cell? ⟨g, o + 1, none⟩ = some v → w'.heap[g]? = w.heap[g]?
theorem Keeps.of_ext {w w' : World} (h : Ext w w') : Keeps w w' := fun g _ _ hc => h.block g (cell_lt hc)
theorem Keeps.of_only {M : Nat → Prop} {w w' : World} (h : Only M w w') (hM : ∀ k, M k → ∀ o, w.cell? ⟨k, o + 1, none⟩ = none) : Keeps w w' := fun g o v hc => by
  refine h.block g (cell_lt hc) fun hm => ?_
  rw [hM g hm o] at hc
  cases hc
theorem Keeps.at {w w' : World} (h : Keeps w w') {g o o' : Nat} {v u : Value} (h1 : w.cell? ⟨g, o + 1, none⟩ = some v) (h2 : w.cell? ⟨g, o', none⟩ = some u) : w'.cell? ⟨g, o', none⟩ = some u :=
  (World.cell?_of_block (a := ⟨g, o', none⟩) (h g o v h1)).trans h2
theorem PairsAt.keeps {w w' : World} (hx : Keeps w w') {v : Value} {l : List (Sp.Bs × Sp.Bs)} (h : PairsAt w v l) : PairsAt w' v l := by
  obtain ⟨a, c, hv, hc⟩ := h
  refine ⟨a, c, hv, fun j x hj => ?_⟩
  obtain ⟨g, o, ha, h1, h2⟩ := hc j x hj
  exact ⟨g, o, ha, hx.at h2 h1, hx.at h2 h2⟩
mutual
theorem PartAt.keeps {w w' : World} (hx : Keeps w w') : ∀ (d : PartD) (v : Value), PartAt w d v → PartAt w' d v
  | .mk f t p b q, v, h => by
    unfold PartAt at h ⊢
    obtain ⟨vf, vp, a, c, hv, h0, h1, h2, h3⟩ := h
    exact ⟨vf, vp, a, c, hv, h0, h1.keeps hx, h2.keeps hx, PartsAt.keeps hx q a 0 h3⟩
theorem PartsAt.keeps {w w' : World} (hx : Keeps w w') : ∀ (q : List PartD) (a : Option Addr) (n : Nat), PartsAt w q a n → PartsAt w' q a n
  | [], _, _, _ => by unfold PartsAt; trivial
  | d :: q, a, n, h => by
    unfold PartsAt at h ⊢
    obtain ⟨⟨g, o, v0, v1, v2, v3, v4, ha, h0, h1, h2, h3, h4, hd⟩, hq⟩ := h
    exact ⟨⟨g, o, v0, v1, v2, v3, v4, ha, hx.at h1 h0, hx.at h1 h1, hx.at h1 h2, hx.at h1 h3, hx.at h1 h4, PartAt.keeps hx d _ hd⟩, PartsAt.keeps hx q a (n + 1) hq⟩
end
theorem PairsAt.ext {w w' : World} (hx : Ext w w') {v : Value} {l : List (Sp.Bs × Sp.Bs)} (h : PairsAt w v l) : PairsAt w' v l := h.keeps (.of_ext hx)
theorem PartAt.ext {w w' : World} (hx : Ext w w') (d : PartD) (v : Value) (h : PartAt w d v) : PartAt w' d v := PartAt.keeps (.of_ext hx) d v h
theorem PartsAt.ext {w w' : World} (hx : Ext w w') (q : List PartD) (a : Option Addr) (n : Nat) (h : PartsAt w q a n) : PartsAt w' q a n := PartsAt.keeps (.of_ext hx) q a n h
theorem PartAt.shape {w : World} {d : PartD} {v : Value} (h : PartAt w d v) : ∃ a0 c0 a2 c2 a4 c4, v = .agg #[.slice a0 d.fields.length c0, str d.type, .slice a2 d.params.length c2, str d.body, .slice a4 d.parts.length c4] := by
  cases d with
  | mk f t p b q =>
    unfold PartAt at h
    obtain ⟨vf, vp, a, c, rfl, _, ⟨a0, c0, rfl, _⟩, ⟨a2, c2, rfl, _⟩, _⟩ := h
    exact ⟨a0, c0, a2, c2, a, c, rfl⟩
/-- the fields, the params and the parts of a part -/
theorem PartAt.open {w : World} {d : PartD} {a0 a2 a4 : Option Addr} {n0 n2 n4 c0 c2 c4 : Nat} {v1 v3 : Value} (h : PartAt w d (.agg #[.slice a0 n0 c0, v1, .slice a2 n2 c2, v3, .slice a4 n4 c4])) :
    PairsAt w (.slice a0 n0 c0) d.fields ∧ PairsAt w (.slice a2 n2 c2) d.params ∧ PartsAt w d.parts a4 0 ∧ n4 ≤ c4 := by
  cases d with
  | mk f t p b q =>
    unfold PartAt at h
    obtain ⟨vf, vp, a, c, e, h0, h1, h2, h3⟩ := h
    cases e
    exact ⟨h1, h2, h3, h0⟩
theorem PartsAt.at {w : World} : ∀ (q : List PartD) (a : Option Addr) (n j : Nat) (d : PartD), PartsAt w q a n → q[j]? = some d →
    ∃ g o a0 c0 a2 c2 a4 c4, a = some ⟨g, o, none⟩ ∧ w.cell? ⟨g, o + (n + j) * 5, none⟩ = some (.slice a0 d.fields.length c0) ∧ w.cell? ⟨g, o + (n + j) * 5 + 1, none⟩ = some (str d.type) ∧ w.cell? ⟨g, o + (n + j) * 5 + 2, none⟩ = some (.slice a2 d.params.length c2) ∧ w.cell? ⟨g, o + (n + j) * 5 + 3, none⟩ = some (str d.body) ∧ w.cell? ⟨g, o + (n + j) * 5 + 4, none⟩ = some (.slice a4 d.parts.length c4) ∧
      PartAt w d (.agg #[.slice a0 d.fields.length c0, str d.type, .slice a2 d.params.length c2, str d.body, .slice a4 d.parts.length c4])
  | [], _, _, _, _, _, h => by simp at h
  | d :: q, a, n, 0, d', h, hj => by
    simp at hj; subst hj
    unfold PartsAt at h
    obtain ⟨⟨g, o, v0, v1, v2, v3, v4, ha, h0, h1, h2, h3, h4, hd⟩, _⟩ := h
    obtain ⟨a0, c0, a2, c2, a4, c4, e⟩ := hd.shape
    cases e
    exact ⟨g, o, a0, c0, a2, c2, a4, c4, ha, h0, h1, h2, h3, h4, hd⟩
  | d :: q, a, n, j + 1, d', h, hj => by
    unfold PartsAt at h
    have := PartsAt.at q a (n + 1) j d' h.2 (by simpa using hj)
    rwa [show n + 1 + j = n + (j + 1) by omega] at this

def Sp.kind (t : Sp.Bs) : Nat := if Lib.hasPrefix t [109, 117, 108, 116, 105, 112, 97, 114, 116, 47] then 1 else if t == [109, 101, 115, 115, 97, 103, 101, 47, 114, 102, 99, 56, 50, 50] then 2 else 0

set_option maxHeartbeats 1000000 in
theorem kind_any (vf vp vq vb : Value) (t : Sp.Bs) (w : World) :
    Calls Tryz.prog 60 #[.agg #[vf, str t, vp, vb, vq]] w fun e w' => e = .returned (.int .i64 (Sp.kind t)) ∧ Ext w w' := by
  have hx : Ext w (w.alloc (.cells #[vf, str t, vp, vb, vq] 26)) := ext_alloc (Below.refl _ _) _
  unfold Sp.kind
  cases h1 : Lib.hasPrefix t [109, 117, 108, 116, 105, 112, 97, 114, 116, 47] with
  | true =>
    go_enter Tryz.func60, Tryz.ntmps60
    go_wp2_with fail
    refine (Tryz.strings_HasPrefix _ _ _).mono ?_
    rintro e w' ⟨rfl, rfl⟩
    simp only [List.toList_toArray, h1]
    go_wp2_with fail
    go_ret
    exact ⟨rfl, hx⟩
  | false =>
    cases h2 : (t == [109, 101, 115, 115, 97, 103, 101, 47, 114, 102, 99, 56, 50, 50]) with
    | true =>
      go_enter Tryz.func60, Tryz.ntmps60
      go_wp2_with fail
      refine (Tryz.strings_HasPrefix _ _ _).mono ?_
      rintro e w' ⟨rfl, rfl⟩
      simp only [List.toList_toArray, h1]
      go_wp2_with fail
      go_ret
      exact ⟨rfl, hx⟩
    | false =>
      go_enter Tryz.func60, Tryz.ntmps60
      go_wp2_with fail
      refine (Tryz.strings_HasPrefix _ _ _).mono ?_
      rintro e w' ⟨rfl, rfl⟩
      simp only [List.toList_toArray, h1]
      go_wp2_with fail
      go_ret
      exact ⟨rfl, hx⟩

def Sp.plainT : Sp.Bs := [116, 101, 120, 116, 47, 112, 108, 97, 105, 110]
def Sp.htmlT : Sp.Bs := [116, 101, 120, 116, 47, 104, 116, 109, 108]
def Sp.readT (t : Sp.Bs) : Bool := t == Sp.plainT || t == Sp.htmlT
theorem readableType_any (t : Sp.Bs) (w : World) :
    Calls Tryz.prog 126 #[str t] w fun e w' => e = .returned (.bool (Sp.readT t)) ∧ w' = w := by
  unfold Sp.readT Sp.plainT Sp.htmlT
  cases h1 : (t == [116, 101, 120, 116, 47, 112, 108, 97, 105, 110])
  all_goals cases h2 : (t == [116, 101, 120, 116, 47, 104, 116, 109, 108])
  all_goals
    go_enter Tryz.func126, Tryz.ntmps126
    go_wp2_with fail
    go_ret
    exact ⟨rfl, rfl⟩

end Go.Proofs.YtjbllanlfgbpkaaGreatDoor
