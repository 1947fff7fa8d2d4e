/- Ranges over a function whose elements are known beforehand: the iterator's contract ('Iter'), and the law for its caller. T: the blocks that the iterator relies on; it changes none but those of T that it has made itself, and the loop's body leaves all of T as it was. -/
import Derived.Test.YtjbllanlfgbpkaaGreatDoorMem
import Derived.RangeFuncNested
import Derived.RangeFuncBound
import Derived.RangeFuncCalls
import Derived.RangeFuncLeaves
import Derived.Shelf.Abstract
import Derived.OwnWalkIn
import Derived.TacticsInMore
import Derived.LoopNIn
import Derived.LoopIn
namespace Go.Proofs.YtjbllanlfgbpkaaGreatDoor
open Go.RowKit

abbrev BSet := Nat → Prop

/-- the wide fence lets everything by -/
theorem wide_fn (k : FuncId) : Fence.wide.fn k = True := rfl
theorem wide_depth : Fence.wide.depth = none := rfl
theorem round_fn (l : Nat) (k : FuncId) : (Fence.wide.inRound l).fn k = True := rfl
theorem round_depth (l : Nat) : (Fence.wide.inRound l).depth = none := rfl

/-- an invariant over (how many have come, what the iterator relies on) abides an iterator's step -/
def Abides {β : Type} (B : Nat) (J : β → BSet → World → Prop) : Prop :=
  ∀ k T T' W1 W2, J k T W1 → Only (fun b => B ≤ b ∧ T b) W1 W2 → (∀ b, T b → T' b) → (∀ b, T' b → T b ∨ (W1.heap.size ≤ b ∧ b < W2.heap.size)) → J k T' W2

def Iter (g : FuncId) (lb : Array Value) (xs : List Value) (R : BSet) (w0 : World) : Prop :=
  ∀ (l : Nat) (J : Nat → BSet → World → Prop) (Jx : BSet → World → Prop) (W : World),
    Only (fun b => ¬ R b) w0 W → Abides W.heap.size J → Abides (β := Unit) W.heap.size (fun _ => Jx) →
    (∀ k x T W1, xs[k]? = some x → J k T W1 → YieldAt Fence.wide 0 Tryz.prog l #[x] W1 fun e W' =>
      Only (fun b => ¬ T b) W1 W' ∧ ((e = .returned (.bool true) ∧ J (k + 1) T W') ∨ (e = .returned (.bool false) ∧ Jx T W'))) →
    J 0 R W →
    CallsIn Fence.wide 0 Tryz.prog g (#[.func (.yield l) #[] #[]] ++ lb) W fun e W' => (∃ v, e = .returned v) ∧ ∃ T, J xs.length T W' ∨ Jx T W'

/-- how the body of a round may be left -/
def roundEnd (I : Nat → BSet → World → Prop) (Ix : Code → BSet → World → Prop) (k : Nat) (T : BSet) (W : World) : Exit → Act → World → Prop
  | .normal, _, W' => Only (fun b => ¬ T b) W W' ∧ I (k + 1) T W'
  | .ret, _, W' => Only (fun b => ¬ T b) W W' ∧ Ix .ret T W'
  | .exit id, _, W' => Only (fun b => ¬ T b) W W' ∧ Ix (.exit id) T W'
  | .goto t, _, W' => Only (fun b => ¬ T b) W W' ∧ Ix (.goto t) T W'
  | .panic _, _, _ => False
  | .outgrown, _, _ => False

theorem only_putObj {M : BSet} {a w : World} (h : Only M a w) (l : Nat) (o : Obj) (hl : l < a.heap.size → M l) : Only M a (w.putObj l o) :=
  h.grown (grownBy_putObj' w l o) (fun k e hk => by cases e; exact hl hk)

theorem Abides.putObj {β : Type} {B : Nat} {J : β → BSet → World → Prop} (h : Abides B J) {k : β} {T : BSet} {W : World} {l : Nat} (o : Obj) (hs : J k T W) (hB : B ≤ l) (hl : T l) : J k T (W.putObj l o) :=
  h k T T W _ hs (only_putObj (Only.refl _ W) l o (fun _ => ⟨hB, hl⟩)) (fun _ h => h) (fun _ h => .inl h)
theorem Abides.alloc {β : Type} {B : Nat} {J : β → BSet → World → Prop} (h : Abides B J) {k : β} {T : BSet} {W : World} (o : Obj) (hs : J k T W) : J k (fun b => T b ∨ b = W.heap.size) (W.alloc o) :=
  h k T _ W _ hs ((Only.refl _ W).alloc o) (fun _ h => .inl h) (fun b h => h.imp id (fun e => by subst e; simp))

theorem wp_range {g : Operand} {ps : Array Tmp} {assign body : Code} {Q : Exit → Act → World → Prop} {a : Act} {w : World}
    {gf : Nat} {lb : Array Value} (hg : a.eval g = .func (.func gf) #[] lb) (eg : ∀ args w, (callFunc gf args).run Tryz.prog w = .ok (.enter gf args) w)
    {xs : List Value} {R : BSet} {w0 : World} (hit : Iter gf lb xs R w0) (hb0 : Only (fun b => ¬ R b) w0 w) (hR : ∀ b, R b → b < w.heap.size) (hR0 : ∀ b, R b → b < w0.heap.size) (hps : 1 = ps.size)
    (I : Nat → BSet → World → Prop) (Ix : Code → BSet → World → Prop) (hI : Abides w.heap.size I) (hIx : ∀ c, Abides (β := Unit) w.heap.size (fun _ => Ix c)) (h0 : I 0 R w) (a₁ : Value → Act)
    (hassign : ∀ (l : Nat) (x : Value) (W : World) (K : Act → World → Prop), K (a₁ x) W →
      assign.wpIn (Fence.wide.inRound l) 0 Tryz.prog (Exit.then K (fun _ _ _ => False)) { tmps := (ps.zip #[x]).foldl (fun t (p, v) => t.setIfInBounds p v) a.tmps, defers := [] } W)
    (hbody : ∀ (l : Nat) (k : Nat) (x : Value) (T : BSet) (W : World), xs[k]? = some x → I k T W → body.wpIn (Fence.wide.inRound l) 0 Tryz.prog (roundEnd I Ix k T W) (a₁ x) W)
    (hdone : ∀ (D : Nat) (T : BSet) (W : World), w.heap.size ≤ D → T D → I xs.length T W → W.heap[D]? = some (.deferred (some [])) → Q .normal { a with defers := { target := .collected D, args := #[] } :: a.defers } W)
    (hstop : ∀ (D : Nat) (c : Code) (T : BSet) (W : World), w.heap.size ≤ D → T D → Ix c T W → W.heap[D]? = some (.deferred (some [])) → c.wpIn Fence.wide 0 Tryz.prog Q { a with defers := { target := .collected D, args := #[] } :: a.defers } W) :
    (Code.rangeFunc g ps assign body).wpIn Fence.wide 0 Tryz.prog Q a w := by
  refine wpIn_rangeFunc ?_
  intro fn hfn
  obtain ⟨rec, hrec⟩ : ∃ rec : LoopState → Option Code → Loop, rec = fun st pe => { state := st, pending := pe, fn, tmps := a.tmps, params := ps, assign, body, defers := w.heap.size } := ⟨_, rfl⟩
  obtain ⟨W1, hW1⟩ : ∃ W1, (w.alloc (.deferred (some []))).alloc (.loop (rec .ready none)) = W1 := ⟨_, rfl⟩
  obtain ⟨L, hL⟩ : ∃ L, L = w.heap.size + 1 := ⟨_, rfl⟩
  obtain ⟨D, hD⟩ : ∃ D, D = w.heap.size := ⟨_, rfl⟩
  have hsz : W1.heap.size = w.heap.size + 2 := by rw [← hW1]; simp
  have hL1 : W1.heap[L]? = some (.loop (rec .ready none)) := by
    rw [← hW1, hL]; have := World.alloc_heap_new (w.alloc (.deferred (some []))) (.loop (rec .ready none)); rwa [World.size_alloc] at this
  have hK1 : W1.heap[D]? = some (.deferred (some [])) := by
    rw [← hW1, hD]; exact (Below.heap_alloc _ _ _ (by simp)).trans (World.alloc_heap_new w _)
  have hI1 : I 0 (fun b => R b ∨ b = D ∨ b = L) W1 := by
    rw [← hW1]
    refine hI 0 R _ w _ h0 (((Only.refl _ w).alloc _).alloc _) (fun _ h => .inl h) (fun b h => ?_)
    rcases h with h | h | h
    · exact .inl h
    · right; subst h; rw [hD]; simp; omega
    · right; subst h; rw [hL]; simp
  have hb1 : Only (fun b => ¬ R b) w0 W1 := by rw [← hW1]; exact (hb0.alloc _).alloc _
  refine ⟨L, [{ target := .collected D, args := #[] }], W1, { target := .fn (.func gf) lb, args := #[.func (.yield L) #[] #[]] }, W1, gf,
    #[.func (.yield L) #[] #[]] ++ lb, W1, ?_, ?_, ?_, ?_, fun h => (by simp [Fence.wide] at h), ?_⟩
  · rw [← hW1, hrec, hL, hD]; exact run_enterLoop_outer _ _ _ _ _
  · simp only [resolve, hg]
    simp [go_sem]
  · intro f' _; trivial
  · simp [invoke, go_sem, eg]
  · have step : ∀ {k : Nat} {T T' : BSet} {A C : World}, Only (fun b => W1.heap.size ≤ b ∧ T b) A C → Only (fun b => w.heap.size ≤ b ∧ (T b ∨ b = D ∨ b = L)) A C := fun h =>
      h.mono (fun b _ hb => ⟨by omega, .inl hb.2⟩)
    have far : ∀ {T T' : BSet} {A C : World} {o : Obj} (b : Nat), b < w.heap.size + 2 → A.heap[b]? = some o → Only (fun b => W1.heap.size ≤ b ∧ T b) A C → C.heap[b]? = some o := fun b hb ho h =>
      (h.block b (Array.getElem?_eq_some_iff.1 ho).1 (fun hh => by omega)).trans ho
    refine (hit L
      (fun k T W => (¬ T D ∧ ¬ T L ∧ w.heap.size + 2 ≤ W.heap.size) ∧ I k (fun b => T b ∨ b = D ∨ b = L) W ∧ W.heap[L]? = some (.loop (rec .ready none)) ∧ W.heap[D]? = some (.deferred (some [])))
      (fun T W => (¬ T D ∧ ¬ T L ∧ w.heap.size + 2 ≤ W.heap.size) ∧ ∃ c, Ix c (fun b => T b ∨ b = D ∨ b = L) W ∧ W.heap[L]? = some (.loop (rec .done (some c))) ∧ W.heap[D]? = some (.deferred (some [])))
      W1 hb1 ?_ ?_ ?_ ?_).mono ?_
    · rintro k T T' A C ⟨⟨hd, hl, hs⟩, hi, hLA, hDA⟩ hO hT hT'
      refine ⟨⟨fun h => (hT' _ h).elim hd (fun h => by omega), fun h => (hT' _ h).elim hl (fun h => by omega), by have := hO.size; omega⟩, ?_, far (T' := T) L (by omega) hLA hO, far (T' := T) D (by omega) hDA hO⟩
      exact hI k _ _ A C hi (step (k := k) (T' := T) hO) (fun b h => h.imp (hT b) id) (fun b h => h.elim (fun h => (hT' b h).imp .inl id) (fun h => .inl (.inr h)))
    · rintro k T T' A C ⟨⟨hd, hl, hs⟩, c, hi, hLA, hDA⟩ hO hT hT'
      refine ⟨⟨fun h => (hT' _ h).elim hd (fun h => by omega), fun h => (hT' _ h).elim hl (fun h => by omega), by have := hO.size; omega⟩, c, ?_, far (T' := T) L (by omega) hLA hO, far (T' := T) D (by omega) hDA hO⟩
      exact hIx c () _ _ A C hi (step (k := 0) (T' := T) hO) (fun b h => h.imp (hT b) id) (fun b h => h.elim (fun h => (hT' b h).imp .inl id) (fun h => .inl (.inr h)))
    · -- one round
      rintro k x T W hx ⟨⟨hd, hl, hs⟩, hi, hLW, hDW⟩
      have hlt : L < W.heap.size := (Array.getElem?_eq_some_iff.1 hLW).1
      have hDL : D ≠ L := by omega
      have hy := run_yield (P := Tryz.prog) (args := #[x]) hLW (by rw [hrec]; exact hps)
      rw [hrec] at hy
      refine ⟨fn, _, assign, body, hy, roundIn_of_wpIn hfn (hassign _ x W _ ⟨_, run_beginRound hLW (by rw [hrec]), ?_⟩)⟩
      have hl2 : (W.putObj L (.loop { rec .ready none with state := .busy })).heap[L]? = some (.loop { rec .ready none with state := .busy }) := World.putObj_heap_same hlt
      have hk2 : (W.putObj L (.loop { rec .ready none with state := .busy })).heap[D]? = some (.deferred (some [])) := (World.putObj_heap_other hDL).trans hDW
      have hi2 : I k (fun b => T b ∨ b = D ∨ b = L) (W.putObj L (.loop { rec .ready none with state := .busy })) := hI.putObj _ hi (by omega) (.inr (.inr rfl))
      have hO2 : Only (fun b => ¬ T b) W (W.putObj L (.loop { rec .ready none with state := .busy })) := only_putObj (Only.refl _ W) L _ (fun _ => hl)
      refine wpIn_mono (hbody _ k x _ _ hx hi2) ?_
      have fin : ∀ (jump : Option Code) (W3 : World), Only (fun b => ¬ (T b ∨ b = D ∨ b = L)) (W.putObj L (.loop { rec .ready none with state := .busy })) W3 →
          (Instr.endRound L jump).run Tryz.prog W3 = .ok (.bool jump.isNone) (W3.putObj L (.loop (rec (if jump.isNone then .ready else .done) jump))) ∧
          Only (fun b => ¬ T b) W (W3.putObj L (.loop (rec (if jump.isNone then .ready else .done) jump))) ∧ w.heap.size + 2 ≤ (W3.putObj L (.loop (rec (if jump.isNone then .ready else .done) jump))).heap.size ∧
          (W3.putObj L (.loop (rec (if jump.isNone then .ready else .done) jump))).heap[L]? = some (.loop (rec (if jump.isNone then .ready else .done) jump)) ∧
          (W3.putObj L (.loop (rec (if jump.isNone then .ready else .done) jump))).heap[D]? = some (.deferred (some [])) := fun jump W3 hk3 => by
        have hl3 := (hk3.block L (Array.getElem?_eq_some_iff.1 hl2).1 (fun h => h (.inr (.inr rfl)))).trans hl2
        have hd3 := (hk3.block D (Array.getElem?_eq_some_iff.1 hk2).1 (fun h => h (.inr (.inl rfl)))).trans hk2
        have hrun := run_endRound (P := Tryz.prog) jump hl3
        rw [hrec] at hrun ⊢
        have hL3 := (Array.getElem?_eq_some_iff.1 hl3).1
        refine ⟨hrun, only_putObj (hO2.trans hk3 (fun b _ h hT => h (.inl hT))) L _ (fun _ => hl), ?_, World.putObj_heap_same hL3, (World.putObj_heap_other hDL).trans hd3⟩
        have h1 := hk3.size
        have h2 := hO2.size
        simp only [World.putObj_size] at h1 h2 ⊢
        omega
      rintro e a3 W3 hp
      cases e with
      | normal =>
        obtain ⟨hk3, hi3⟩ := hp
        obtain ⟨hr, hO, hs3, hl4, hk4⟩ := fin none W3 hk3
        exact ⟨_, _, hr, hO, .inl ⟨rfl, ⟨hd, hl, hs3⟩, hI.putObj _ hi3 (by omega) (.inr (.inr rfl)), hl4, hk4⟩⟩
      | ret =>
        obtain ⟨hk3, hi3⟩ := hp
        obtain ⟨hr, hO, hs3, hl4, hk4⟩ := fin (some .ret) W3 hk3
        exact ⟨_, _, hr, hO, .inr ⟨rfl, ⟨hd, hl, hs3⟩, .ret, (hIx .ret).putObj (k := ()) _ hi3 (by omega) (.inr (.inr rfl)), hl4, hk4⟩⟩
      | exit id =>
        obtain ⟨hk3, hi3⟩ := hp
        obtain ⟨hr, hO, hs3, hl4, hk4⟩ := fin (some (.exit id)) W3 hk3
        exact ⟨_, _, hr, hO, .inr ⟨rfl, ⟨hd, hl, hs3⟩, .exit id, (hIx (.exit id)).putObj (k := ()) _ hi3 (by omega) (.inr (.inr rfl)), hl4, hk4⟩⟩
      | goto t =>
        obtain ⟨hk3, hi3⟩ := hp
        obtain ⟨hr, hO, hs3, hl4, hk4⟩ := fin (some (.goto t)) W3 hk3
        exact ⟨_, _, hr, hO, .inr ⟨rfl, ⟨hd, hl, hs3⟩, .goto t, (hIx (.goto t)).putObj (k := ()) _ hi3 (by omega) (.inr (.inr rfl)), hl4, hk4⟩⟩
      | panic ch => exact hp.elim
      | outgrown => exact hp.elim
    · exact ⟨⟨fun h => by have := hR D h; omega, fun h => by have := hR L h; omega, by omega⟩, hI1, hL1, hK1⟩
    · -- behind the iterator
      rintro e W2 ⟨⟨v, rfl⟩, T, (⟨⟨hd, hl, hs⟩, hi, hLW, hDW⟩ | ⟨⟨hd, hl, hs⟩, c, hi, hLW, hDW⟩)⟩
      · exact ⟨none, _, by have := run_endLoop (P := Tryz.prog) hLW (by rw [hrec]; simp); rw [hrec] at this; exact this, hdone D _ _ (by omega) (.inr (.inl rfl)) (hI.putObj _ hi (by omega) (.inr (.inr rfl))) ((World.putObj_heap_other (by omega)).trans hDW)⟩
      · exact ⟨some c, _, by have := run_endLoop (P := Tryz.prog) hLW (by rw [hrec]; simp); rw [hrec] at this; exact this, hstop D c _ _ (by omega) (.inr (.inl rfl)) ((hIx c).putObj (k := ()) _ hi (by omega) (.inr (.inr rfl))) ((World.putObj_heap_other (by omega)).trans hDW)⟩

/-- .. where the loop variable is laid in memory: 'Pre' says of the frame and the world what the assignment leaves. -/
theorem wp_range2 {g : Operand} {ps : Array Tmp} {assign body : Code} {Q : Exit → Act → World → Prop} {a : Act} {w : World}
    {gf : Nat} {lb : Array Value} (hg : a.eval g = .func (.func gf) #[] lb) (eg : ∀ args w, (callFunc gf args).run Tryz.prog w = .ok (.enter gf args) w)
    {xs : List Value} {R : BSet} {w0 : World} (hit : Iter gf lb xs R w0) (hb0 : Only (fun b => ¬ R b) w0 w) (hR : ∀ b, R b → b < w.heap.size) (hR0 : ∀ b, R b → b < w0.heap.size) (hps : 1 = ps.size)
    (I : Nat → BSet → World → Prop) (Ix : Code → BSet → World → Prop) (hI : Abides w.heap.size I) (hIx : ∀ c, Abides (β := Unit) w.heap.size (fun _ => Ix c)) (h0 : I 0 R w) (Pre : Value → Act → BSet → World → Prop) (hPre : ∀ x a, Abides (β := Unit) w.heap.size (fun _ T W => Pre x a T W))
    (hassign : ∀ (l k : Nat) (x : Value) (T : BSet) (W : World) (K : Act → World → Prop), xs[k]? = some x → I k T W → (∀ a₁ W', Ext W W' → I k T W' → Pre x a₁ T W' → K a₁ W') →
      assign.wpIn (Fence.wide.inRound l) 0 Tryz.prog (Exit.then K (fun _ _ _ => False)) { tmps := (ps.zip #[x]).foldl (fun t (p, v) => t.setIfInBounds p v) a.tmps, defers := [] } W)
    (hbody : ∀ (l : Nat) (k : Nat) (x : Value) (T : BSet) (W : World) (a₁ : Act), xs[k]? = some x → I k T W → Pre x a₁ T W → body.wpIn (Fence.wide.inRound l) 0 Tryz.prog (roundEnd I Ix k T W) a₁ W)
    (hdone : ∀ (D : Nat) (T : BSet) (W : World), w.heap.size ≤ D → T D → I xs.length T W → W.heap[D]? = some (.deferred (some [])) → Q .normal { a with defers := { target := .collected D, args := #[] } :: a.defers } W)
    (hstop : ∀ (D : Nat) (c : Code) (T : BSet) (W : World), w.heap.size ≤ D → T D → Ix c T W → W.heap[D]? = some (.deferred (some [])) → c.wpIn Fence.wide 0 Tryz.prog Q { a with defers := { target := .collected D, args := #[] } :: a.defers } W) :
    (Code.rangeFunc g ps assign body).wpIn Fence.wide 0 Tryz.prog Q a w := by
  refine wpIn_rangeFunc ?_
  intro fn hfn
  obtain ⟨rec, hrec⟩ : ∃ rec : LoopState → Option Code → Loop, rec = fun st pe => { state := st, pending := pe, fn, tmps := a.tmps, params := ps, assign, body, defers := w.heap.size } := ⟨_, rfl⟩
  obtain ⟨W1, hW1⟩ : ∃ W1, (w.alloc (.deferred (some []))).alloc (.loop (rec .ready none)) = W1 := ⟨_, rfl⟩
  obtain ⟨L, hL⟩ : ∃ L, L = w.heap.size + 1 := ⟨_, rfl⟩
  obtain ⟨D, hD⟩ : ∃ D, D = w.heap.size := ⟨_, rfl⟩
  have hsz : W1.heap.size = w.heap.size + 2 := by rw [← hW1]; simp
  have hL1 : W1.heap[L]? = some (.loop (rec .ready none)) := by
    rw [← hW1, hL]; have := World.alloc_heap_new (w.alloc (.deferred (some []))) (.loop (rec .ready none)); rwa [World.size_alloc] at this
  have hK1 : W1.heap[D]? = some (.deferred (some [])) := by
    rw [← hW1, hD]; exact (Below.heap_alloc _ _ _ (by simp)).trans (World.alloc_heap_new w _)
  have hI1 : I 0 (fun b => R b ∨ b = D ∨ b = L) W1 := by
    rw [← hW1]
    refine hI 0 R _ w _ h0 (((Only.refl _ w).alloc _).alloc _) (fun _ h => .inl h) (fun b h => ?_)
    rcases h with h | h | h
    · exact .inl h
    · right; subst h; rw [hD]; simp; omega
    · right; subst h; rw [hL]; simp
  have hb1 : Only (fun b => ¬ R b) w0 W1 := by rw [← hW1]; exact (hb0.alloc _).alloc _
  refine ⟨L, [{ target := .collected D, args := #[] }], W1, { target := .fn (.func gf) lb, args := #[.func (.yield L) #[] #[]] }, W1, gf,
    #[.func (.yield L) #[] #[]] ++ lb, W1, ?_, ?_, ?_, ?_, fun h => (by simp [Fence.wide] at h), ?_⟩
  · rw [← hW1, hrec, hL, hD]; exact run_enterLoop_outer _ _ _ _ _
  · simp only [resolve, hg]
    simp [go_sem]
  · intro f' _; trivial
  · simp [invoke, go_sem, eg]
  · have step : ∀ {k : Nat} {T T' : BSet} {A C : World}, Only (fun b => W1.heap.size ≤ b ∧ T b) A C → Only (fun b => w.heap.size ≤ b ∧ (T b ∨ b = D ∨ b = L)) A C := fun h =>
      h.mono (fun b _ hb => ⟨by omega, .inl hb.2⟩)
    have far : ∀ {T T' : BSet} {A C : World} {o : Obj} (b : Nat), b < w.heap.size + 2 → A.heap[b]? = some o → Only (fun b => W1.heap.size ≤ b ∧ T b) A C → C.heap[b]? = some o := fun b hb ho h =>
      (h.block b (Array.getElem?_eq_some_iff.1 ho).1 (fun hh => by omega)).trans ho
    refine (hit L
      (fun k T W => (¬ T D ∧ ¬ T L ∧ w.heap.size + 2 ≤ W.heap.size) ∧ I k (fun b => T b ∨ b = D ∨ b = L) W ∧ W.heap[L]? = some (.loop (rec .ready none)) ∧ W.heap[D]? = some (.deferred (some [])))
      (fun T W => (¬ T D ∧ ¬ T L ∧ w.heap.size + 2 ≤ W.heap.size) ∧ ∃ c, Ix c (fun b => T b ∨ b = D ∨ b = L) W ∧ W.heap[L]? = some (.loop (rec .done (some c))) ∧ W.heap[D]? = some (.deferred (some [])))
      W1 hb1 ?_ ?_ ?_ ?_).mono ?_
    · rintro k T T' A C ⟨⟨hd, hl, hs⟩, hi, hLA, hDA⟩ hO hT hT'
      refine ⟨⟨fun h => (hT' _ h).elim hd (fun h => by omega), fun h => (hT' _ h).elim hl (fun h => by omega), by have := hO.size; omega⟩, ?_, far (T' := T) L (by omega) hLA hO, far (T' := T) D (by omega) hDA hO⟩
      exact hI k _ _ A C hi (step (k := k) (T' := T) hO) (fun b h => h.imp (hT b) id) (fun b h => h.elim (fun h => (hT' b h).imp .inl id) (fun h => .inl (.inr h)))
    · rintro k T T' A C ⟨⟨hd, hl, hs⟩, c, hi, hLA, hDA⟩ hO hT hT'
      refine ⟨⟨fun h => (hT' _ h).elim hd (fun h => by omega), fun h => (hT' _ h).elim hl (fun h => by omega), by have := hO.size; omega⟩, c, ?_, far (T' := T) L (by omega) hLA hO, far (T' := T) D (by omega) hDA hO⟩
      exact hIx c () _ _ A C hi (step (k := 0) (T' := T) hO) (fun b h => h.imp (hT b) id) (fun b h => h.elim (fun h => (hT' b h).imp .inl id) (fun h => .inl (.inr h)))
    · -- one round
      rintro k x T W hx ⟨⟨hd, hl, hs⟩, hi, hLW, hDW⟩
      have hlt : L < W.heap.size := (Array.getElem?_eq_some_iff.1 hLW).1
      have hDL : D ≠ L := by omega
      have hy := run_yield (P := Tryz.prog) (args := #[x]) hLW (by rw [hrec]; exact hps)
      rw [hrec] at hy
      refine ⟨fn, _, assign, body, hy, roundIn_of_wpIn hfn (hassign L k x _ W _ hx hi (fun a₁ W0 hxA hiA hpA => ?_))⟩
      have hLA : W0.heap[L]? = some (.loop (rec .ready none)) := (hxA.block L hlt).trans hLW
      have hDA : W0.heap[D]? = some (.deferred (some [])) := (hxA.block D (Array.getElem?_eq_some_iff.1 hDW).1).trans hDW
      refine ⟨_, run_beginRound hLA (by rw [hrec]), ?_⟩
      clear hi
      have hsA := hxA.size
      have hltA : L < W0.heap.size := by omega
      have hl2 : (W0.putObj L (.loop { rec .ready none with state := .busy })).heap[L]? = some (.loop { rec .ready none with state := .busy }) := World.putObj_heap_same hltA
      have hk2 : (W0.putObj L (.loop { rec .ready none with state := .busy })).heap[D]? = some (.deferred (some [])) := (World.putObj_heap_other hDL).trans hDA
      have hi2 : I k (fun b => T b ∨ b = D ∨ b = L) (W0.putObj L (.loop { rec .ready none with state := .busy })) := hI.putObj _ hiA (by omega) (.inr (.inr rfl))
      have hO2 : Only (fun b => ¬ T b) W (W0.putObj L (.loop { rec .ready none with state := .busy })) := only_putObj (Only.of_ext hxA) L _ (fun _ => hl)
      have hp2 : Pre x a₁ (fun b => T b ∨ b = D ∨ b = L) (W0.putObj L (.loop { rec .ready none with state := .busy })) := (hPre x a₁).putObj (k := ()) _ hpA (by omega) (.inr (.inr rfl))
      refine wpIn_mono (hbody _ k x _ _ a₁ hx hi2 hp2) ?_
      have fin : ∀ (jump : Option Code) (W3 : World), Only (fun b => ¬ (T b ∨ b = D ∨ b = L)) (W0.putObj L (.loop { rec .ready none with state := .busy })) W3 →
          (Instr.endRound L jump).run Tryz.prog W3 = .ok (.bool jump.isNone) (W3.putObj L (.loop (rec (if jump.isNone then .ready else .done) jump))) ∧
          Only (fun b => ¬ T b) W (W3.putObj L (.loop (rec (if jump.isNone then .ready else .done) jump))) ∧ w.heap.size + 2 ≤ (W3.putObj L (.loop (rec (if jump.isNone then .ready else .done) jump))).heap.size ∧
          (W3.putObj L (.loop (rec (if jump.isNone then .ready else .done) jump))).heap[L]? = some (.loop (rec (if jump.isNone then .ready else .done) jump)) ∧
          (W3.putObj L (.loop (rec (if jump.isNone then .ready else .done) jump))).heap[D]? = some (.deferred (some [])) := fun jump W3 hk3 => by
        have hl3 := (hk3.block L (Array.getElem?_eq_some_iff.1 hl2).1 (fun h => h (.inr (.inr rfl)))).trans hl2
        have hd3 := (hk3.block D (Array.getElem?_eq_some_iff.1 hk2).1 (fun h => h (.inr (.inl rfl)))).trans hk2
        have hrun := run_endRound (P := Tryz.prog) jump hl3
        rw [hrec] at hrun ⊢
        have hL3 := (Array.getElem?_eq_some_iff.1 hl3).1
        refine ⟨hrun, only_putObj (hO2.trans hk3 (fun b _ h hT => h (.inl hT))) L _ (fun _ => hl), ?_, World.putObj_heap_same hL3, (World.putObj_heap_other hDL).trans hd3⟩
        have h1 := hk3.size
        have h2 := hO2.size
        simp only [World.putObj_size] at h1 h2 ⊢
        omega
      rintro e a3 W3 hp
      cases e with
      | normal =>
        obtain ⟨hk3, hi3⟩ := hp
        obtain ⟨hr, hO, hs3, hl4, hk4⟩ := fin none W3 hk3
        exact ⟨_, _, hr, hO, .inl ⟨rfl, ⟨hd, hl, hs3⟩, hI.putObj _ hi3 (by omega) (.inr (.inr rfl)), hl4, hk4⟩⟩
      | ret =>
        obtain ⟨hk3, hi3⟩ := hp
        obtain ⟨hr, hO, hs3, hl4, hk4⟩ := fin (some .ret) W3 hk3
        exact ⟨_, _, hr, hO, .inr ⟨rfl, ⟨hd, hl, hs3⟩, .ret, (hIx .ret).putObj (k := ()) _ hi3 (by omega) (.inr (.inr rfl)), hl4, hk4⟩⟩
      | exit id =>
        obtain ⟨hk3, hi3⟩ := hp
        obtain ⟨hr, hO, hs3, hl4, hk4⟩ := fin (some (.exit id)) W3 hk3
        exact ⟨_, _, hr, hO, .inr ⟨rfl, ⟨hd, hl, hs3⟩, .exit id, (hIx (.exit id)).putObj (k := ()) _ hi3 (by omega) (.inr (.inr rfl)), hl4, hk4⟩⟩
      | goto t =>
        obtain ⟨hk3, hi3⟩ := hp
        obtain ⟨hr, hO, hs3, hl4, hk4⟩ := fin (some (.goto t)) W3 hk3
        exact ⟨_, _, hr, hO, .inr ⟨rfl, ⟨hd, hl, hs3⟩, .goto t, (hIx (.goto t)).putObj (k := ()) _ hi3 (by omega) (.inr (.inr rfl)), hl4, hk4⟩⟩
      | panic ch => exact hp.elim
      | outgrown => exact hp.elim
    · exact ⟨⟨fun h => by have := hR D h; omega, fun h => by have := hR L h; omega, by omega⟩, hI1, hL1, hK1⟩
    · -- behind the iterator
      rintro e W2 ⟨⟨v, rfl⟩, T, (⟨⟨hd, hl, hs⟩, hi, hLW, hDW⟩ | ⟨⟨hd, hl, hs⟩, c, hi, hLW, hDW⟩)⟩
      · exact ⟨none, _, by have := run_endLoop (P := Tryz.prog) hLW (by rw [hrec]; simp); rw [hrec] at this; exact this, hdone D _ _ (by omega) (.inr (.inl rfl)) (hI.putObj _ hi (by omega) (.inr (.inr rfl))) ((World.putObj_heap_other (by omega)).trans hDW)⟩
      · exact ⟨some c, _, by have := run_endLoop (P := Tryz.prog) hLW (by rw [hrec]; simp); rw [hrec] at this; exact this, hstop D c _ _ (by omega) (.inr (.inl rfl)) ((hIx c).putObj (k := ()) _ hi (by omega) (.inr (.inr rfl))) ((World.putObj_heap_other (by omega)).trans hDW)⟩

/-! ### a Builder of the caller's own, written in the rounds -/
/-- w: the world in which the call began; b: the Builder; T: what the iterator relies on. -/
def BI (w : World) (b : Nat) (acc : Sp.Bs) (T : BSet) (W : World) : Prop :=
  ∃ o, Bld b o acc W ∧ ¬ T b ∧ (∀ g, o = some g → ¬ T g ∧ w.heap.size ≤ g) ∧ Ext w W ∧ (∀ k, T k → k < W.heap.size) ∧ w.heap.size ≤ b

theorem BI.abides (w : World) (b : Nat) (f : Nat → Sp.Bs) (B : Nat) (hB : w.heap.size ≤ B) : Abides B (fun k T W => BI w b (f k) T W) := by
  rintro k T T' W1 W2 ⟨o, hb, hT, ho, hE, hTs, hwb⟩ hO hTT hT'
  refine ⟨o, hb.only hO (fun h => hT h.2) (fun g hg h => (ho g hg).1 h.2), fun h => (hT' _ h).elim hT (fun h => by have := hb.lt; omega), fun g hg => ⟨fun h => (hT' _ h).elim (ho g hg).1 (fun h => by have := hb.lt_own g hg; omega), (ho g hg).2⟩, ?_, ?_, hwb⟩
  · exact hE.trans (hO.below hE.size (fun k hk h => by omega))
  · exact fun k hk => (hT' k hk).elim (fun h => Nat.lt_of_lt_of_le (hTs k h) hO.size) (fun h => h.2)
theorem BI.post {w : World} {b : Nat} {o : Option Nat} {acc' : Sp.Bs} {T : BSet} {W W' : World} (hT : ¬ T b) (ho : ∀ g, o = some g → ¬ T g ∧ w.heap.size ≤ g) (hE : Ext w W) (hTs : ∀ k, T k → k < W.heap.size) (hwb : w.heap.size ≤ b)
    (hp : BldPost b o acc' W W') : BI w b acc' T W' ∧ Only (fun b => ¬ T b) W W' := by
  obtain ⟨o', hb', hn, hO⟩ := hp
  have hO' : Only (fun b => ¬ T b) W W' := hO.mono (fun k _ h hk => h.elim (fun e => hT (e ▸ hk)) (fun e => (ho k e.symm).1 hk))
  refine ⟨⟨o', hb', hT, ?_, ?_, fun k hk => Nat.lt_of_lt_of_le (hTs k hk) hO.size, hwb⟩, hO'⟩
  · intro g hg
    rcases hn with e | ⟨g', e, hge⟩
    · exact ho g (by rw [← e, hg])
    · rw [hg] at e; cases e
      have := hE.size
      exact ⟨fun h => by have := hTs _ h; omega, by omega⟩
  · exact hE.trans (hO.below hE.size (fun k hk h => h.elim (fun e => by omega) (fun e => by have := (ho k e.symm).2; omega)))
theorem BI.new {w W : World} {T : BSet} {b : Nat} (hb : Bld b none [] W) (hT : ¬ T b) (hE : Ext w W) (hTs : ∀ k, T k → k < W.heap.size) (hwb : w.heap.size ≤ b) : BI w b [] T W :=
  ⟨none, hb, hT, (fun g h => by cases h), hE, hTs, hwb⟩
theorem biLen_any {w : World} {b : Nat} {acc : Sp.Bs} {T : BSet} {W : World} (h : BI w b acc T W) :
    Calls Tryz.prog 45 #[.pointer (some ⟨b, 0, none⟩)] W fun e w' => e = .returned (.int .i64 acc.length) ∧ w' = W := by
  obtain ⟨o, hb, _⟩ := h
  exact bldLen_any hb
theorem biWriteString_any {w : World} {b : Nat} {acc : Sp.Bs} {T : BSet} {W : World} (s : ByteArray) (h : BI w b acc T W) (hlen : acc.length + s.size ≤ 140737488355328) :
    Calls Tryz.prog 30 #[.pointer (some ⟨b, 0, none⟩), .string s] W fun e W' => e = .returned (.tuple #[.int .i64 s.size, .nilIface]) ∧ BI w b (acc ++ s.data.toList) T W' ∧ Only (fun b => ¬ T b) W W' := by
  obtain ⟨o, hb, hT, ho, hE, hTs, hwb⟩ := h
  exact (writeString_any s hb hlen).mono fun e W' ⟨he, hp⟩ => ⟨he, BI.post hT ho hE hTs hwb hp⟩
theorem biWriteByte_any {w : World} {b : Nat} {acc : Sp.Bs} {T : BSet} {W : World} (c : UInt8) (h : BI w b acc T W) (hlen : acc.length + 1 ≤ 140737488355328) :
    Calls Tryz.prog 38 #[.pointer (some ⟨b, 0, none⟩), .int .u8 c.toNat] W fun e W' => e = .returned .nilIface ∧ BI w b (acc ++ [c]) T W' ∧ Only (fun b => ¬ T b) W W' := by
  obtain ⟨o, hb, hT, ho, hE, hTs, hwb⟩ := h
  exact (writeByte_any c hb hlen).mono fun e W' ⟨he, hp⟩ => ⟨he, BI.post hT ho hE hTs hwb hp⟩
theorem biString_any {w : World} {b : Nat} {acc : Sp.Bs} {T : BSet} {W : World} (h : BI w b acc T W) :
    Calls Tryz.prog 33 #[.pointer (some ⟨b, 0, none⟩)] W fun e W' => e = .returned (str acc) ∧ Ext w W' ∧ (∀ D ds, T D → W.heap[D]? = some (.deferred ds) → W'.heap[D]? = some (.deferred ds)) := by
  obtain ⟨o, hb, hT, ho, hE, hTs, hwb⟩ := h
  exact (bldString_any hb w.heap.size hwb (fun g hg => (ho g hg).2)).mono fun e W' ⟨he, hB, hK⟩ => ⟨he, hE.trans hB, fun D ds hTD hD => hK D _ hD (fun e => by cases e; exact hT hTD) (fun _ _ e => by cases e)⟩

end Go.Proofs.YtjbllanlfgbpkaaGreatDoor
