/- body.parts: its iterator (plain part and the recursive closure) -/
import Derived.Test.YtjbllanlfgbpkaaGreatDoorText3
namespace Go.Proofs.YtjbllanlfgbpkaaGreatDoor
open Go.RowKit

attribute [local go_sem] Oper.semAt_some wide_fn wide_depth round_fn round_depth

mutual
/-- a part and the parts in it, with what they lie as; not those in a closed one -/
def alls (w : World) (clo : PartD → Bool) : PartD → Value → List (PartD × Value)
  | .mk f t p b q, v => (.mk f t p b q, v) :: (if clo (.mk f t p b q) then [] else allsL w clo q (partsPtr v) 0)
def allsL (w : World) (clo : PartD → Bool) : List PartD → Option Addr → Nat → List (PartD × Value)
  | [], _, _ => []
  | d :: q, a, n => alls w clo d (kidAt w a n) ++ allsL w clo q a (n + 1)
end
mutual
def Sp.alls (clo : PartD → Bool) : PartD → List PartD
  | .mk f t p b q => .mk f t p b q :: (if clo (.mk f t p b q) then [] else Sp.allsL clo q)
def Sp.allsL (clo : PartD → Bool) : List PartD → List PartD
  | [] => []
  | d :: q => Sp.alls clo d ++ Sp.allsL clo q
end
mutual
theorem alls_fst (w : World) (clo : PartD → Bool) : ∀ (d : PartD) (v : Value), (alls w clo d v).map Prod.fst = Sp.alls clo d
  | .mk f t p b q, v => by
    rw [alls, Sp.alls, List.map_cons]
    congr 1
    split
    · rfl
    · exact allsL_fst w clo q _ 0
theorem allsL_fst (w : World) (clo : PartD → Bool) : ∀ (q : List PartD) (a : Option Addr) (n : Nat), (allsL w clo q a n).map Prod.fst = Sp.allsL clo q
  | [], _, _ => by rw [allsL, Sp.allsL]; rfl
  | d :: q, a, n => by rw [allsL, Sp.allsL, List.map_append, allsL_fst w clo q a (n + 1), alls_fst w clo d _]
end
mutual
theorem alls_at {w : World} (clo : PartD → Bool) : ∀ (d : PartD) (v : Value), PartAt w d v → ∀ x ∈ alls w clo d v, PartAt w x.1 x.2
  | .mk f t p b q, v, h => by
    rw [alls]
    intro x hx
    rcases List.mem_cons.1 hx with rfl | hx
    · exact h
    · split at hx
      · cases hx
      · unfold PartAt at h
        obtain ⟨vf, vp, a, c, rfl, _, _, _, h3⟩ := h
        exact allsL_at clo q a 0 h3 x hx
theorem allsL_at {w : World} (clo : PartD → Bool) : ∀ (q : List PartD) (a : Option Addr) (n : Nat), PartsAt w q a n → ∀ x ∈ allsL w clo q a n, PartAt w x.1 x.2
  | [], _, _, _ => by rw [allsL]; intro x hx; cases hx
  | d :: q, a, n, h => by
    unfold PartsAt at h
    obtain ⟨⟨g, o, v0, v1, v2, v3, v4, rfl, h0, h1, h2, h3, h4, hd⟩, hq⟩ := h
    rw [allsL]
    intro x hx
    rcases List.mem_append.1 hx with hx | hx
    · rw [kidAt_of h0 h1 h2 h3 h4] at hx
      exact alls_at clo d _ hd x hx
    · exact allsL_at clo q _ (n + 1) hq x hx
end
theorem allsL_append (w : World) (clo : PartD → Bool) (a : Option Addr) : ∀ (q1 q2 : List PartD) (n : Nat), allsL w clo (q1 ++ q2) a n = allsL w clo q1 a n ++ allsL w clo q2 a (n + q1.length)
  | [], q2, n => by simp [allsL]
  | d :: q1, q2, n => by
    rw [List.cons_append, allsL, allsL, allsL_append w clo a q1 q2 (n + 1), List.append_assoc, List.length_cons]
    rw [show n + 1 + q1.length = n + (q1.length + 1) by omega]
theorem allsL_succ (w : World) (clo : PartD → Bool) (a : Option Addr) (q : List PartD) (j : Nat) (h : j < q.length) : allsL w clo (q.take (j + 1)) a 0 = allsL w clo (q.take j) a 0 ++ alls w clo q[j] (kidAt w a j) := by
  rw [List.take_add_one, List.getElem?_eq_getElem h, allsL_append]
  simp [allsL, Nat.min_eq_left (Nat.le_of_lt h)]
theorem allsL_get (w : World) (clo : PartD → Bool) (a : Option Addr) (q : List PartD) (j : Nat) (h : j < q.length) (i : Nat) (x : PartD × Value) (hx : (alls w clo q[j] (kidAt w a j))[i]? = some x) :
    (allsL w clo q a 0)[(allsL w clo (q.take j) a 0).length + i]? = some x := by
  have hi : i < (alls w clo q[j] (kidAt w a j)).length := (List.getElem?_eq_some_iff.1 hx).1
  have e := allsL_append w clo a (q.take (j + 1)) (q.drop (j + 1)) 0
  rw [List.take_append_drop, allsL_succ w clo a q j h] at e
  rw [e, List.append_assoc, List.getElem?_append_right (by omega), Nat.add_sub_cancel_left, List.getElem?_append_left hi]
  exact hx

/-- The contract of the closure that tells which parts are closed. -/
def CloOk (clo : PartD → Bool) (gc : Nat) (lc : Array Value) (wB : World) (Sub : PartD → Prop) : Prop :=
  (∀ d, Sub d → ∀ c ∈ d.parts, Sub c) ∧ (∀ d, Sub d → d.parts.length ≤ 1000000000) ∧
  ∀ d, Sub d → ∀ (v : Value) (w : World), PartAt w d v → Ext wB w → Calls Tryz.prog gc (#[v] ++ lc) w fun e w' => e = .returned (.bool (clo d)) ∧ Ext w w'

/-- the boxes of the recursive closure -/
def PBox (l yb cb vb gc : Nat) (lc : Array Value) (W : World) : Prop :=
  W.cell? ⟨yb, 0, none⟩ = some (.func (.yield l) #[] #[]) ∧ W.cell? ⟨cb, 0, none⟩ = some (.func (.func gc) #[] lc) ∧
  W.cell? ⟨vb, 0, none⟩ = some (.func (.func 103) #[] #[.pointer (some ⟨yb, 0, none⟩), .pointer (some ⟨cb, 0, none⟩), .pointer (some ⟨vb, 0, none⟩)])

/-- What an iterator over xs may ask of its caller, where what it relies on grows. -/
structure YieldsT (l : Nat) (xs : List Value) (J : Nat → BSet → World → Prop) (Jx : BSet → World → Prop) : Prop where
  step : ∀ k (T T' : BSet) W1 W2, J k T W1 → Ext W1 W2 → (∀ b, T b → T' b) → (∀ b, T' b → T b ∨ (W1.heap.size ≤ b ∧ b < W2.heap.size)) → J k T' W2
  yield : ∀ k x (T : BSet) W1, xs[k]? = some x → J k T W1 → YieldAt Fence.wide 0 Tryz.prog l #[x] W1 fun e W' => Only (fun b => ¬ T b) W1 W' ∧ ((e = .returned (.bool true) ∧ J (k + 1) T W') ∨ (e = .returned (.bool false) ∧ Jx T W'))
/-- T holds what lay in wB and the boxes. -/
structure THolds (wB : World) (yb cb vb : Nat) (T : BSet) : Prop where
  below : ∀ b, b < wB.heap.size → T b
  y : T yb
  c : T cb
  v : T vb
theorem THolds.mono {wB : World} {yb cb vb : Nat} {T T' : BSet} (h : THolds wB yb cb vb T) (hT : ∀ b, T b → T' b) : THolds wB yb cb vb T' := ⟨fun b hb => hT _ (h.below b hb), hT _ h.y, hT _ h.c, hT _ h.v⟩
theorem THolds.ext {wB W W' : World} {yb cb vb : Nat} {T : BSet} (h : THolds wB yb cb vb T) (hE : Ext wB W) (hO : Only (fun b => ¬ T b) W W') : Ext wB W' :=
  hE.trans (hO.below hE.size (fun k hk hn => hn (h.below k hk)))
theorem THolds.box {wB W W' : World} {l yb cb vb gc : Nat} {lc : Array Value} {T : BSet} (h : THolds wB yb cb vb T) (hP : PBox l yb cb vb gc lc W) (hO : Only (fun b => ¬ T b) W W') : PBox l yb cb vb gc lc W' := by
  obtain ⟨h1, h2, h3⟩ := hP
  have mv : ∀ (g : Nat) (v : Value), T g → W.cell? ⟨g, 0, none⟩ = some v → W'.cell? ⟨g, 0, none⟩ = some v := fun g v hg hc =>
    (World.cell?_of_block (a := ⟨g, 0, none⟩) (hO.block g (cell_lt hc) (fun hn => hn hg))).trans hc
  exact ⟨mv _ _ h.y h1, mv _ _ h.c h2, mv _ _ h.v h3⟩

def PVisitAt (wB : World) (clo : PartD → Bool) (l yb cb vb gc : Nat) (lc : Array Value) (xs : List Value) (J : Nat → BSet → World → Prop) (Jx : BSet → World → Prop) (d : PartD) : Prop :=
  ∀ (v : Value) (k : Nat) (T : BSet) (W : World), PartAt wB d v → (∀ i x, (alls wB clo d v)[i]? = some x → xs[k + i]? = some x.2) → J k T W → THolds wB yb cb vb T → Ext wB W → PBox l yb cb vb gc lc W →
    CallsIn Fence.wide 0 Tryz.prog 103 #[v, .pointer (some ⟨yb, 0, none⟩), .pointer (some ⟨cb, 0, none⟩), .pointer (some ⟨vb, 0, none⟩)] W fun e W' =>
      Only (fun b => ¬ T b) W W' ∧ ∃ T' : BSet, (∀ b, T b → T' b) ∧ ((e = .returned (.bool true) ∧ J (k + (alls wB clo d v).length) T' W') ∨ (e = .returned (.bool false) ∧ Jx T' W'))

end Go.Proofs.YtjbllanlfgbpkaaGreatDoor
