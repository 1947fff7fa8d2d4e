/- The memory's words: what a call changes ('Only'), a strings.Builder with its own block; the Builder's methods with their exact footprint. -/
import Derived.Test.YtjbllanlfgbpkaaGreatDoorProg
import Derived.Test.YtjbllanlfgbpkaaGreatDoorSpec
import Derived.WalkKit
import Derived.WalkSpells
import Derived.WalkLawsBesides
import Derived.Lib.Hide
import Derived.Lib.AppendStr
import Derived.Lib.UnsafeStr
import Derived.Lib.Builder
import Derived.Laws.Externs
import Derived.Deep.AppendLies
import Derived.Deep.QuietTactic
import Derived.BigQuiet
import Derived.Test.YtjbllanlfgbpkaaGreatDoorShelf
namespace Go.Proofs.YtjbllanlfgbpkaaGreatDoor
open Go.RowKit

abbrev str (l : Sp.Bs) : Value := .string ⟨l.toArray⟩
abbrev Ext (w w' : World) : Prop := Below w.heap.size w w'
abbrev cellsOf (l : Sp.Bs) : List Value := Lib.byteCells l

@[simp] theorem size_str (l : Sp.Bs) : (⟨l.toArray⟩ : ByteArray).size = l.length := by simp [ByteArray.size]
theorem extract_str (l : Sp.Bs) (i j : Nat) : (⟨l.toArray⟩ : ByteArray).extract i j = ⟨((l.drop i).take (j - i)).toArray⟩ := by
  apply ByteArray.ext
  apply Array.ext'
  simp [ByteArray.data_extract, Array.toList_extract, List.extract_eq_take_drop]
theorem extract_bs (s : ByteArray) (i j : Nat) : s.extract i j = ⟨((s.data.toList.drop i).take (j - i)).toArray⟩ := by
  apply ByteArray.ext
  apply Array.ext'
  simp [ByteArray.data_extract, Array.toList_extract, List.extract_eq_take_drop]
theorem extract_end (s : ByteArray) (k : Nat) : (s.extract k s.size).data.toList = s.data.toList.drop k := by
  rw [extract_bs]
  simp only [List.toList_toArray]
  exact List.take_of_length_le (by simp)
theorem extract_list (s : ByteArray) (i j : Nat) : (s.extract i j).data.toList = (s.data.toList.drop i).take (j - i) := by
  rw [extract_bs]
theorem ret_int {k : IntKind} {a b : Int} (h : a = b) : Ending.returned (.int k a) = .returned (.int k b) := by rw [h]
theorem ret_bool {a b : Bool} (h : a = b) : Ending.returned (.bool a) = .returned (.bool b) := by rw [h]
theorem ret_str {a b : Sp.Bs} (h : a = b) : Ending.returned (str a) = .returned (str b) := by rw [h]

/-- Of the blocks of w only those of M may have changed; new blocks may lie behind. -/
structure Only (M : Nat → Prop) (w w' : World) : Prop where
  os : w'.os = w.os
  tape : w'.tape = w.tape
  output : w'.output = w.output
  size : w.heap.size ≤ w'.heap.size
  block : ∀ k, k < w.heap.size → ¬ M k → w'.heap[k]? = w.heap[k]?

theorem Only.refl (M : Nat → Prop) (w : World) : Only M w w := ⟨rfl, rfl, rfl, Nat.le_refl _, fun _ _ _ => rfl⟩
theorem Only.mono {M M' : Nat → Prop} {w w' : World} (h : Only M w w') (hM : ∀ k, k < w.heap.size → M k → M' k) : Only M' w w' :=
  ⟨h.os, h.tape, h.output, h.size, fun k hk hn => h.block k hk (fun hm => hn (hM k hk hm))⟩
/-- the second step may change what is new besides -/
theorem Only.trans {M M' : Nat → Prop} {a b c : World} (h : Only M a b) (k : Only M' b c) (hM : ∀ k, k < a.heap.size → M' k → M k) : Only M a c :=
  ⟨k.os.trans h.os, k.tape.trans h.tape, k.output.trans h.output, Nat.le_trans h.size k.size, fun i hi hn => (k.block i (Nat.lt_of_lt_of_le hi h.size) (fun hm => hn (hM i hi hm))).trans (h.block i hi hn)⟩
theorem Only.of_ext {M : Nat → Prop} {w w' : World} (h : Ext w w') : Only M w w' := ⟨h.os, h.tape, h.output, h.size, fun k hk _ => h.block k hk⟩
theorem Only.ext {M : Nat → Prop} {w w' : World} (h : Only M w w') (hM : ∀ k, k < w.heap.size → ¬ M k) : Ext w w' :=
  ⟨h.os, h.tape, h.output, h.size, fun k hk => h.block k hk (hM k hk)⟩
theorem Only.below {M : Nat → Prop} {B : Nat} {w w' : World} (h : Only M w w') (hB : B ≤ w.heap.size) (hM : ∀ k, k < B → ¬ M k) : Below B w w' :=
  ⟨h.os, h.tape, h.output, h.size, fun k hk => h.block k (Nat.lt_of_lt_of_le hk hB) (hM k hk)⟩
theorem Only.of_below {M : Nat → Prop} {B : Nat} {w w' : World} (h : Below B w w') (hM : ∀ k, k < w.heap.size → B ≤ k → M k) : Only M w w' :=
  ⟨h.os, h.tape, h.output, h.size, fun k hk hn => h.block k (Nat.lt_of_not_ge (fun hb => hn (hM k hk hb)))⟩
theorem Only.alloc {M : Nat → Prop} {a w : World} (h : Only M a w) (o : Obj) : Only M a (w.alloc o) :=
  h.trans (M' := fun _ => False) ⟨rfl, rfl, rfl, by simp, fun k hk _ => Below.heap_alloc _ _ _ hk⟩ (fun _ _ hf => hf.elim)
theorem Only.drew {M : Nat → Prop} {a w : World} (h : Only M a w) : Only M a w.drew := ⟨h.os, h.tape, h.output, h.size, h.block⟩
theorem Only.drewN {M : Nat → Prop} {a w : World} (h : Only M a w) (n : Nat) : Only M a (w.drewN n) := ⟨h.os, h.tape, h.output, h.size, h.block⟩
theorem Only.setCell {M : Nat → Prop} {a w : World} (h : Only M a w) {p : Addr} (hp : p.block < a.heap.size → M p.block) (u : Value) : Only M a (w.setCell p u) :=
  ⟨h.os, h.tape, h.output, by simpa [World.setCell] using h.size, fun k hk hn => (Below.heap_setCell _ _ _ _ (fun e => hn (by subst e; exact hp hk))).trans (h.block k hk hn)⟩
theorem Only.grown {M : Nat → Prop} {a w w' : World} {row : Option Nat} (h : Only M a w) (hg : w.grownBy w' row) (hr : ∀ k, row = some k → k < a.heap.size → M k) : Only M a w' :=
  ⟨hg.os.trans h.os, hg.tape.trans h.tape, hg.output.trans h.output, Nat.le_trans h.size hg.size, fun k hk hn =>
    (hg.block k (Nat.lt_of_lt_of_le hk h.size) (fun e => hn (hr k e.symm hk))).trans (h.block k hk hn)⟩

theorem ext_trans {a b c : World} (h : Ext a b) (k : Ext b c) : Ext a c := h.trans (k.mono h.size)
theorem ext_drew {a b : World} (h : Ext a b) : Ext a b.drew := h.drew
theorem ext_drewN {a b : World} (h : Ext a b) (n : Nat) : Ext a (b.drewN n) := ⟨h.os, h.tape, h.output, h.size, h.block⟩
theorem ext_alloc {a b : World} (h : Ext a b) (o : Obj) : Ext a (b.alloc o) := h.alloc h.size o

/-- The world is as it was, but for some draws. -/
def Quiet (w w' : World) : Prop := ∃ n, w' = w.drewN n
theorem Quiet.refl (w : World) : Quiet w w := ⟨0, rfl⟩
theorem Quiet.drewN {w w' : World} (h : Quiet w w') (m : Nat) : Quiet w (w'.drewN m) := by
  obtain ⟨n, rfl⟩ := h
  exact ⟨n + m, by rw [World.drewN_drewN]⟩
theorem Quiet.drew {w w' : World} (h : Quiet w w') : Quiet w w'.drew := h.drewN 1
theorem Quiet.trans {a b c : World} (h : Quiet a b) (k : Quiet b c) : Quiet a c := by
  obtain ⟨n, rfl⟩ := k
  exact h.drewN n
theorem Quiet.ext {w w' : World} (h : Quiet w w') : Ext w w' := by
  obtain ⟨n, rfl⟩ := h
  exact ext_drewN (Below.refl _ _) n

/-! ### what is owned, under a change elsewhere -/
theorem ownsRow_only {M : Nat → Prop} {w w' : World} {base : Nat} {e : TypeId} {size : Nat} {v : Value} {n : Nat} {xs : List Value} (h : w.ownsRow base e size v n xs) (ho : Only M w w') (hM : ∀ g, v.ownBlock = some g → ¬ M g) : w'.ownsRow base e size v n xs := by
  refine ⟨h.1, ?_⟩
  rcases h.2 with hn | ⟨g, cap, cur, rfl, hb, hg, r⟩
  · exact .inl hn
  · exact .inr ⟨g, cap, cur, rfl, hb, by rw [ho.block g (lt_of_block hg) (hM g rfl)]; exact hg, r⟩
theorem ownsRow_base {w : World} {base base' : Nat} {e : TypeId} {size : Nat} {v : Value} {n : Nat} {xs : List Value} (h : w.ownsRow base e size v n xs) (hb : ∀ g, v.ownBlock = some g → base' ≤ g) : w.ownsRow base' e size v n xs := by
  refine ⟨h.1, ?_⟩
  rcases h.2 with hn | ⟨g, cap, cur, rfl, _, r⟩
  · exact .inl hn
  · exact .inr ⟨g, cap, cur, rfl, hb g rfl, r⟩

/-- A new own block is the old one or new. -/
def NewOwn (o o' : Option Nat) (w : World) : Prop := o' = o ∨ ∃ g, o' = some g ∧ w.heap.size ≤ g

/-- append(b, s...) onto bytes that the call owns, and where the new slice lies -/
theorem run_append_str_at {P : Program} (w : World) (base : Nat) (t u ty e : TypeId) (i : TypeInfo) (ht : P.underlying t = some (.slice e)) (hu : P.underlying u = some .string) (hi : P.info? e = some i) (hz : i.zero = some (.int .u8 0))
    (hsize : i.size = 1) (hby : i.bytes = 1) (v : Value) (n : Nat) (xs : List Value) (hown : w.ownsRow base e 1 v n xs) (s : ByteArray) (hbytes : n + s.size ≤ 140737488355328) (hbase : base ≤ w.heap.size) :
    ∃ v' w', (Builtin.append_ #[t, u] ty #[v, .string s]).run P w = .ok v' w' ∧ w'.ownsRow base e 1 v' (n + s.size) (xs ++ Lib.strCells s) ∧ w.grownBy w' v.ownBlock ∧ NewOwn v.ownBlock v'.ownBlock w := by
  have h63 : n + s.size ≤ maxLen := by unfold maxLen; omega
  obtain ⟨v', w', hr, h1, h2, _⟩ := Lib.run_append_own_string w base t u ty e i ht hu hi hz hsize hby v n xs hown s h63 hbytes hbase
  refine ⟨v', w', hr, h1, h2, ?_⟩
  rcases hown.2 with ⟨rfl, rfl⟩ | ⟨g, cap, cur, rfl, hbg, hg, hnc, hcm, hcs, htake⟩
  · have hx : xs = [] := List.eq_nil_of_length_eq_zero (by simpa using hown.1)
    subst hx
    obtain ⟨v2, w2, hr2, k1, _⟩ := Lib.run_append_own_string w w.heap.size t u ty e i ht hu hi hz hsize hby (.slice none 0 0) 0 [] (World.ownsRow_nil w _ e 1) s h63 hbytes (Nat.le_refl _)
    rw [hr] at hr2
    obtain ⟨rfl, rfl⟩ : v' = v2 ∧ w' = w2 := by cases hr2; exact ⟨rfl, rfl⟩
    rcases k1.2 with ⟨rfl, _⟩ | ⟨g, cap, cur, rfl, hb, _⟩
    · exact .inl rfl
    · exact .inr ⟨g, rfl, hb⟩
  · have hxl : xs.length = n := by simpa using hown.1
    by_cases hroom : n + s.size ≤ cap
    · have hr2 := Lib.run_append_room_string (P := P) w t u ty e i ht hu hi hsize g n cap cur hg s hroom (by omega)
      rw [hr] at hr2
      cases hr2
      exact .inl rfl
    · have holds : ∀ j u, xs[j]? = some u → w.cell? ((⟨g, 0, none⟩ : Addr).add j) = some u := hown.cells (g := g) rfl
      have hr2 := Lib.run_append_grow_string (P := P) w t u ty e i (.int .u8 0) ht hu hi hz ⟨g, 0, none⟩ n cap xs (by rw [hsize]; simpa using hxl) holds s (by omega) (by omega) (by rw [hby]; exact growslice_fits (by omega) (by omega))
      rw [hr] at hr2
      cases hr2
      exact .inr ⟨_, rfl, Nat.le_refl _⟩

theorem wpList_append_str_at {P : Program} {w : World} {ops : Array Oper} {rest : List Oper} {o : Oper} {a : Act} {Q : Exit → Act → World → Prop} (hgd : o.guard = none) (sl x : Operand) (t u : TypeId)
    (ho : o.op = .call { callee := .builtin .append, args := #[sl, x], argTypes := #[t, u] })
    (base : Nat) (e : TypeId) (i : TypeInfo) (ht : P.underlying t = some (.slice e)) (hu : P.underlying u = some .string) (hi : P.info? e = some i) (hz : i.zero = some (.int .u8 0))
    (hsize : i.size = 1) (hby : i.bytes = 1)
    (v : Value) (n : Nat) (xs : List Value) (hs : a.eval sl = v) (hown : w.ownsRow base e 1 v n xs) (s : ByteArray) (hx : a.eval x = .string s)
    (hbytes : n + s.size ≤ 140737488355328) (hbase : base ≤ w.heap.size)
    (h : ∀ v' w', w'.ownsRow base e 1 v' (n + s.size) (xs ++ Lib.strCells s) → w.grownBy w' v.ownBlock → NewOwn v.ownBlock v'.ownBlock w → wpList P ops Q rest (a.put o.dst v') w') : wpList P ops Q (o :: rest) a w := by
  refine wpList_plain hgd fun K hK => ?_
  obtain ⟨v', w', hr, h2, h3, h4⟩ := run_append_str_at (P := P) w base t u o.type e i ht hu hi hz hsize hby v n xs hown s hbytes hbase
  unfold Oper.wp execOp
  simp only [ho, resolve, invoke, builtin, Sem.run_bind, Sem.run_pure, Result.andThen_ok, List.map_toArray, List.map_cons, List.map_nil, hs, hx, hr]
  exact hK _ _ (h v' w' h2 h3 h4)

/-- 'l = append(l, x)' onto a slice that the call owns, x of one cell -/
theorem wpList_app1 {P : Program} {w : World} {ops : Array Oper} {rest : List Oper} {o : Oper} {a : Act} {Q : Exit → Act → World → Prop} (hgd : o.guard = none) (s x : Operand) (t : TypeId)
    (ho : o.op = .call { callee := .builtin .append, args := #[s, x], argTypes := #[t, t] })
    (base : Nat) (e : TypeId) (z : Value) (bytes : Nat) (ht : P.underlying t = some (.slice e)) (hinfo : (P.info? e).map (fun i => (i.zero, i.size, i.bytes)) = some (some z, 1, bytes)) (hzs : z.cells.size = 1)
    (v : Value) (n : Nat) (xs : List Value) (hs : a.eval s = v) (hown : w.ownsRow base e 1 v n xs) (u : Value) (hu : u.oneCell' = true) (hx : a.eval x = .slice (some ⟨w.heap.size, 0, none⟩) 1 1)
    (hbytes : (n + 1) * bytes ≤ 140737488355328) (hmax : n + 1 ≤ 140737488355328) (hbase : base ≤ w.heap.size)
    (h : ∀ g cap w', w'.ownsRow base e 1 (.slice (some ⟨g, 0, none⟩) (n + 1) cap) (n + 1) (xs ++ [u]) → Only (fun k => some k = v.ownBlock) w w' → NewOwn v.ownBlock (some g) w → wpList P ops Q rest (a.put o.dst (.slice (some ⟨g, 0, none⟩) (n + 1) cap)) w') :
    wpList P ops Q (o :: rest) a (w.alloc (.cells #[u] e)) := by
  obtain ⟨i0, hi, hz0, hz1, hz2⟩ := info_parts hinfo
  refine wpList_append_lies (w.alloc (.cells #[u] e)) hgd s x t ho base e i0 z 1 bytes ht hi hz0 hz1 hz2 hzs (by decide) v n xs hs (hown.alloc _) ⟨w.heap.size, 0, none⟩ 1 1 [u] hx rfl ?_ ?_ (by decide) (by unfold maxLen; omega) hbytes (by simp; omega) (w.heap.size + 1) (by simp) ?_
  · intro j y hj
    match j, hj with
    | 0, hj => simp at hj; subst hj; simp [Addr.add, World.cell?_alloc_at]
  · intro y hy; simp at hy; subst hy; exact hu
  · intro g cap w' hown' hgrow hat hlt
    refine h g cap w' hown' (((Only.refl _ w).alloc _).grown hgrow (fun k e _ => e.symm)) ?_
    rcases hat with e | e
    · exact .inl e.symm
    · exact .inr ⟨g, rfl, by omega⟩

/-! ### strings.Builder -/
/-- A Builder in block b of the call's own, its buffer in block o (none: nil), holding the bytes l. -/
def Bld (b : Nat) (o : Option Nat) (l : Sp.Bs) (w : World) : Prop :=
  ∃ p v, (p = .pointer none ∨ p = .pointer (some ⟨b, 0, none⟩)) ∧ w.heap[b]? = some (.cells #[p, v] 54 (0, 0)) ∧ w.ownsRow 0 5 1 v l.length (cellsOf l) ∧ v.ownBlock = o ∧ o ≠ some b

/-- what a write to it changes -/
abbrev BldM (b : Nat) (o : Option Nat) : Nat → Prop := fun k => k = b ∨ some k = o

theorem Bld.lt {b : Nat} {o : Option Nat} {l : Sp.Bs} {w : World} (h : Bld b o l w) : b < w.heap.size := by
  obtain ⟨_, _, _, hb, _⟩ := h
  exact lt_of_block hb
theorem Bld.lt_own {b : Nat} {o : Option Nat} {l : Sp.Bs} {w : World} (h : Bld b o l w) : ∀ g, o = some g → g < w.heap.size := by
  obtain ⟨_, v, _, _, hown, rfl, _⟩ := h
  intro g hg
  exact (hown.lt g hg).2
theorem Bld.only {M : Nat → Prop} {b : Nat} {o : Option Nat} {l : Sp.Bs} {w w' : World} (h : Bld b o l w) (ho : Only M w w') (h1 : ¬ M b) (h2 : ∀ g, o = some g → ¬ M g) : Bld b o l w' := by
  obtain ⟨p, v, hp, hb, hown, rfl, hne⟩ := h
  exact ⟨p, v, hp, by rw [ho.block b (lt_of_block hb) h1]; exact hb, ownsRow_only hown ho h2, rfl, hne⟩
theorem Bld.ext {b : Nat} {o : Option Nat} {l : Sp.Bs} {w w' : World} (h : Bld b o l w) (ho : Ext w w') : Bld b o l w' :=
  h.only (M := fun _ => False) (Only.of_ext ho) (fun h => h) (fun _ _ h => h)
/-- 'var b strings.Builder' -/
theorem Bld.new (w : World) : Bld w.heap.size none [] (w.alloc (.cells #[.pointer none, .slice none 0 0] 54)) :=
  ⟨_, _, .inl rfl, heap_alloc_new w _, World.ownsRow_nil _ _ _ _, rfl, by simp⟩
/-- .. as the shelf says it -/
theorem Bld.is {b : Nat} {o : Option Nat} {l : Sp.Bs} {w : World} (h : Bld b o l w) : Lib.IsBuilder 54 5 0 b (Lib.byteCells l) w := by
  obtain ⟨p, v, hp, hb, hown, rfl, hne⟩ := h
  rcases hp with rfl | rfl
  · exact .inl ⟨Nat.zero_le _, v, hb, by rw [Lib.byteCells_length]; exact hown, hne⟩
  · exact .inr ⟨Nat.zero_le _, v, hb, by rw [Lib.byteCells_length]; exact hown, hne⟩

theorem Tryz.info5 : (Tryz.prog.info? 5).map (fun i => (i.zero, i.size, i.bytes)) = some (some (.int .u8 0), 1, 1) := by kernel_rfl

/-- a Builder that has been written to -/
def BldU (b : Nat) (o : Option Nat) (l : Sp.Bs) (w : World) : Prop :=
  ∃ v, w.heap[b]? = some (.cells #[.pointer (some ⟨b, 0, none⟩), v] 54 (0, 0)) ∧ w.ownsRow 0 5 1 v l.length (cellsOf l) ∧ v.ownBlock = o ∧ o ≠ some b
theorem BldU.bld {b : Nat} {o : Option Nat} {l : Sp.Bs} {w : World} (h : BldU b o l w) : Bld b o l w := by
  obtain ⟨v, h⟩ := h
  exact ⟨_, v, .inr rfl, h⟩

theorem sizeBuilder : (Tryz.prog.info? 54).map (·.size) = some 2 := by kernel_rfl
theorem liesBuilder : liesAt Tryz.prog Tryz.prog.depth 54 (2 / Tryz.prog.cellsOf 54) 0 54 1 = true := by kernel_rfl

set_option maxHeartbeats 1000000 in
set_option maxRecDepth 100000 in
theorem copyCheck_used (b : Nat) (w : World) (h0 : w.cell? ⟨b, 0, none⟩ = some (.pointer (some ⟨b, 0, none⟩))) :
    Calls Tryz.prog 71 #[.pointer (some ⟨b, 0, none⟩)] w fun e w' => e = .returned (.tuple #[]) ∧ w' = w := by
  obtain ⟨j, hj, _⟩ := Option.map_eq_some_iff.1 sizeBuilder
  go_enter Tryz.func71, Tryz.ntmps71
  go_wp2
  rw [Lib.run_neq_ptr_same w _ Tryz.underlying51 hj]
  go_wp2
  go_end0
  exact ⟨rfl, rfl⟩

set_option maxHeartbeats 1000000 in
set_option maxRecDepth 100000 in
theorem copyCheck_fresh (b : Nat) (w : World) (h0 : w.cell? ⟨b, 0, none⟩ = some (.pointer none)) (hsh : w.shape? b = some (54, 2)) (hfz : w.frozen? ⟨b, 0, none⟩ = false) :
    Calls Tryz.prog 71 #[.pointer (some ⟨b, 0, none⟩)] w fun e w' => e = .returned (.tuple #[]) ∧ w' = w.setCell ⟨b, 0, none⟩ (.pointer (some ⟨b, 0, none⟩)) := by
  obtain ⟨j, hj, hjs⟩ := Option.map_eq_some_iff.1 sizeBuilder
  go_enter Tryz.func71, Tryz.ntmps71
  go_wp2
  rw [Lib.run_to_unsafe w ⟨b, 0, none⟩ Tryz.underlying51 Tryz.underlying147 hj (by rw [hjs]; decide) hsh (Nat.zero_lt_succ 1)]
  simp only [Result.andThen]
  rw [Oper.upon_value]
  go_wp2
  rw [run_callFunc_extern Tryz.func129 (by kernel_rfl) (by kernel_rfl) (by kernel_rfl) (e := Extern.AbiNoEscape.same) (by kernel_rfl)]
  rw [Lib.run_noEscape]
  simp only [Result.andThen]
  rw [Oper.upon_value]
  go_wp2
  rw [Lib.run_from_unsafe w ⟨b, 0, none⟩ Tryz.underlying147 Tryz.underlying51 hj hsh liesBuilder]
  simp only [Result.andThen]
  rw [Oper.upon_value]
  go_wp2
  go_end0
  exact ⟨rfl, rfl⟩

theorem heap_setCell0 {w : World} {b : Nat} {x y u : Value} {T : TypeId} (h : w.heap[b]? = some (.cells #[x, y] T (0, 0))) : (w.setCell ⟨b, 0, none⟩ u).heap[b]? = some (.cells #[u, y] T (0, 0)) := by
  have := heap_setCell_same w b 0 #[x, y] T u h
  simpa using this
theorem heap_setCell1 {w : World} {b : Nat} {x y u : Value} {T : TypeId} (h : w.heap[b]? = some (.cells #[x, y] T (0, 0))) : (w.setCell ⟨b, 1, none⟩ u).heap[b]? = some (.cells #[x, u] T (0, 0)) := by
  have := heap_setCell_same w b 1 #[x, y] T u h
  simpa using this

theorem copyCheck_any {b : Nat} {o : Option Nat} {l : Sp.Bs} {w : World} (h : Bld b o l w) :
    Calls Tryz.prog 71 #[.pointer (some ⟨b, 0, none⟩)] w fun e w' => e = .returned (.tuple #[]) ∧ BldU b o l w' ∧ Only (· = b) w w' := by
  obtain ⟨p, v, hp, hb, hown, hvo, hne⟩ := h
  rcases hp with rfl | rfl
  · refine (copyCheck_fresh b w (by rw [Lib.cell_of_heap hb]; rfl) (by simp [World.shape?, hb]) (Lib.frozen_of_heap hb 0)).mono ?_
    rintro e w' ⟨rfl, rfl⟩
    have hO : Only (· = b) w (w.setCell ⟨b, 0, none⟩ (.pointer (some ⟨b, 0, none⟩))) := (Only.refl (· = b) w).setCell (p := ⟨b, 0, none⟩) (fun _ => rfl) _
    exact ⟨rfl, ⟨v, heap_setCell0 hb, ownsRow_only hown hO (fun g hg e => hne (by rw [← hvo, hg, e])), hvo, hne⟩, hO⟩
  · refine (copyCheck_used b w (by rw [Lib.cell_of_heap hb]; rfl)).mono ?_
    rintro e w' ⟨rfl, rfl⟩
    exact ⟨rfl, ⟨v, hb, hown, hvo, hne⟩, Only.refl _ _⟩

/-- what a write leaves -/
def BldPost (b : Nat) (o : Option Nat) (l : Sp.Bs) (w w' : World) : Prop := ∃ o', Bld b o' l w' ∧ NewOwn o o' w ∧ Only (BldM b o) w w'

theorem bldPost_put {b : Nat} {o : Option Nat} {l l' : Sp.Bs} {v v' : Value} {w w1 w2 : World} {n : Nat} (h1 : Only (BldM b o) w w1) (hb : w1.heap[b]? = some (.cells #[.pointer (some ⟨b, 0, none⟩), v] 54 (0, 0)))
    (hvo : v.ownBlock = o) (hne : o ≠ some b) (hown' : w2.ownsRow 0 5 1 v' n (cellsOf l')) (hn : n = l'.length) (hg : Only (fun k => some k = o) w1 w2) (hno : NewOwn o v'.ownBlock w1) (hb1 : b < w1.heap.size) :
    BldPost b o l' w (w2.setCell ⟨b, 1, none⟩ v') := by
  subst hn
  have hb2 : w2.heap[b]? = some (.cells #[.pointer (some ⟨b, 0, none⟩), v] 54 (0, 0)) := by rw [hg.block b hb1 (fun e => hne e.symm)]; exact hb
  have hne' : v'.ownBlock ≠ some b := by
    rcases hno with e | ⟨g, e, hge⟩
    · rw [e]; exact hne
    · rw [e]; intro e2; cases e2; omega
  have h12 : Only (BldM b o) w w2 := h1.trans hg (fun k _ e => .inr e)
  refine ⟨v'.ownBlock, ⟨_, v', .inr rfl, heap_setCell1 hb2, ?_, rfl, hne'⟩, ?_, h12.setCell (fun _ => .inl rfl) _⟩
  · exact ownsRow_only hown' ((Only.refl (· = b) w2).setCell (fun _ => rfl) _) (fun g hg e => hne' (by rw [hg, e]))
  · rcases hno with e | ⟨g, e, hge⟩
    · exact .inl e
    · exact .inr ⟨g, e, Nat.le_trans h1.size hge⟩

set_option maxHeartbeats 1000000 in
set_option maxRecDepth 100000 in
theorem writeString_any {b : Nat} {o : Option Nat} {l : Sp.Bs} {w : World} (s : ByteArray) (h : Bld b o l w) (hlen : l.length + s.size ≤ 140737488355328) :
    Calls Tryz.prog 30 #[.pointer (some ⟨b, 0, none⟩), .string s] w fun e w' => e = .returned (.tuple #[.int .i64 s.size, .nilIface]) ∧ BldPost b o (l ++ s.data.toList) w w' := by
  obtain ⟨i0, hi, hz0, hz1, hz2⟩ := info_parts Tryz.info5
  go_enter Tryz.func30, Tryz.ntmps30
  go_wp2_with (go_at_call 71; refine (copyCheck_any h).mono ?_)
  rintro e w1 ⟨rfl, ⟨v, hbk, hown, hvo, hne⟩, hO1⟩
  have hlt := lt_of_block hbk
  have c0 : w1.cell? ⟨b, 0, none⟩ = some (.pointer (some ⟨b, 0, none⟩)) := by rw [Lib.cell_of_heap hbk]; rfl
  have c1 : w1.cell? ⟨b, 1, none⟩ = some v := by rw [Lib.cell_of_heap hbk]; rfl
  have HV := Lib.hid hvo; clear hvo
  go_wp2_with (at_builtin; refine wpList_append_str_at rfl _ _ 52 9 rfl 0 5 i0 Tryz.underlying52 Tryz.underlying9 hi hz0 hz1 hz2 _ _ _ rfl hown s rfl ?c4 ?c5 ?_)
  case c4 => omega
  case c5 => exact Nat.zero_le _
  intro v' w2 hown' hgrow hno
  rw [HV.out] at hgrow hno
  have hO2 : Only (fun k => some k = o) w1 w2 := (Only.refl _ w1).grown hgrow (fun k e _ => e.symm)
  have hb2 : w2.heap[b]? = some (.cells #[.pointer (some ⟨b, 0, none⟩), v] 54 (0, 0)) := by rw [hO2.block b hlt (fun e => hne e.symm)]; exact hbk
  have d0 : w2.cell? ⟨b, 0, none⟩ = some (.pointer (some ⟨b, 0, none⟩)) := by rw [Lib.cell_of_heap hb2]; rfl
  have d1 : w2.cell? ⟨b, 1, none⟩ = some v := by rw [Lib.cell_of_heap hb2]; rfl
  have f1 : w2.frozen? ⟨b, 1, none⟩ = false := Lib.frozen_of_heap hb2 1
  obtain ⟨ao, n', cap, rfl⟩ : ∃ ao n' cap, v' = .slice ao n' cap := by
    rcases hown'.2 with ⟨hv, _⟩ | ⟨g, cap, cur, hv, _⟩
    · exact ⟨_, _, _, hv⟩
    · exact ⟨_, _, _, hv⟩
  have hfin := Lib.hid (bldPost_put (l := l) (l' := l ++ s.data.toList) (hO1.mono (M' := BldM b o) (fun k _ e => .inl e)) hbk HV.out hne (by rw [show cellsOf (l ++ s.data.toList) = cellsOf l ++ Lib.strCells s by rw [Lib.strCells_eq, cellsOf, Lib.byteCells_append]]; exact hown') (by simp) hO2 hno hlt)
  clear hown' hgrow hno hO2 hb2 hown hbk h
  go_wp2
  go_ret2
  exact ⟨rfl, hfin.out⟩

set_option maxHeartbeats 1000000 in
set_option maxRecDepth 100000 in
theorem writeByte_any {b : Nat} {o : Option Nat} {l : Sp.Bs} {w : World} (c : UInt8) (h : Bld b o l w) (hlen : l.length + 1 ≤ 140737488355328) :
    Calls Tryz.prog 38 #[.pointer (some ⟨b, 0, none⟩), .int .u8 c.toNat] w fun e w' => e = .returned .nilIface ∧ BldPost b o (l ++ [c]) w w' := by
  obtain ⟨i0, hi, hz0, hz1, hz2⟩ := info_parts Tryz.info5
  go_enter Tryz.func38, Tryz.ntmps38
  go_wp2_with (go_at_call 71; refine (copyCheck_any h).mono ?_)
  rintro e w1 ⟨rfl, ⟨v, hbk, hown, hvo, hne⟩, hO1⟩
  have hlt := lt_of_block hbk
  have c0 : w1.cell? ⟨b, 0, none⟩ = some (.pointer (some ⟨b, 0, none⟩)) := by rw [Lib.cell_of_heap hbk]; rfl
  have c1 : w1.cell? ⟨b, 1, none⟩ = some v := by rw [Lib.cell_of_heap hbk]; rfl
  have HV := Lib.hid hvo; clear hvo
  go_wp2_with (at_builtin; refine wpList_append_lies _ rfl _ _ 52 rfl 0 5 i0 (.int .u8 0) 1 1 Tryz.underlying52 hi hz0 hz1 hz2 rfl (by decide) _ _ _ rfl (hown.alloc _) ⟨w1.heap.size, 0, none⟩ 1 1 [.int .u8 c.toNat] rfl rfl ?c1 ?c2 ?c3 ?c4 ?c5 ?c6 (w1.heap.size + 1) ?c7 ?_)
  case c1 =>
    intro j u hj
    match j, hj with
    | 0, hj => simp at hj; subst hj; simp [Addr.add]
  case c2 => intro u hu; simp at hu; subst hu; rfl
  case c3 => decide
  case c4 => unfold maxLen; omega
  case c5 => omega
  case c6 => exact Nat.zero_le _
  case c7 => simp
  intro g cap w2 hown' hgrow hat _
  rw [HV.out] at hgrow hat
  have hO2 : Only (fun k => some k = o) w1 w2 := ((Only.refl _ w1).alloc _).grown hgrow (fun k e _ => e.symm)
  have hno : NewOwn o (some g) w1 := by
    rcases hat with e | e
    · exact .inl e.symm
    · exact .inr ⟨g, rfl, by omega⟩
  have hb2 : w2.heap[b]? = some (.cells #[.pointer (some ⟨b, 0, none⟩), v] 54 (0, 0)) := by rw [hO2.block b hlt (fun e => hne e.symm)]; exact hbk
  have d0 : w2.cell? ⟨b, 0, none⟩ = some (.pointer (some ⟨b, 0, none⟩)) := by rw [Lib.cell_of_heap hb2]; rfl
  have d1 : w2.cell? ⟨b, 1, none⟩ = some v := by rw [Lib.cell_of_heap hb2]; rfl
  have f1 : w2.frozen? ⟨b, 1, none⟩ = false := Lib.frozen_of_heap hb2 1
  have hfin := Lib.hid (bldPost_put (l := l) (l' := l ++ [c]) (v' := .slice (some ⟨g, 0, none⟩) (l.length + 1) cap) (hO1.mono (M' := BldM b o) (fun k _ e => .inl e)) hbk HV.out hne (by rw [show cellsOf (l ++ [c]) = cellsOf l ++ [.int .u8 c.toNat] by rw [cellsOf, Lib.byteCells_append]; rfl]; exact hown') (by simp) hO2 hno hlt)
  clear hown' hgrow hat hno hO2 hb2 hown hbk h
  go_wp2
  go_ret
  exact ⟨rfl, hfin.out⟩

theorem bldLen_any {b : Nat} {o : Option Nat} {l : Sp.Bs} {w : World} (h : Bld b o l w) :
    Calls Tryz.prog 45 #[.pointer (some ⟨b, 0, none⟩)] w fun e w' => e = .returned (.int .i64 l.length) ∧ w' = w := by
  have := Tryz.Builder_Len 0 b _ w h.is
  rw [Lib.byteCells_length] at this
  exact this

theorem bldString_any {b : Nat} {o : Option Nat} {l : Sp.Bs} {w : World} (h : Bld b o l w) (B : Nat) (hB : B ≤ b) (ho : ∀ g, o = some g → B ≤ g) :
    Calls Tryz.prog 33 #[.pointer (some ⟨b, 0, none⟩)] w fun e w' => e = .returned (str l) ∧ Below B w w' ∧ Lib.OthersKept 5 (some b) w w' := by
  have hlt := h.lt
  obtain ⟨p, v, hp, hb, hown, rfl, hne⟩ := h
  have his : Lib.IsBuilderF 54 5 B b (Lib.byteCells l) w := by
    refine Lib.IsBuilderF.of ?_
    rcases hp with rfl | rfl
    · exact .inl ⟨hB, v, hb, by rw [Lib.byteCells_length]; exact ownsRow_base hown ho, hne⟩
    · exact .inr ⟨hB, v, hb, by rw [Lib.byteCells_length]; exact ownsRow_base hown ho, hne⟩
  refine (Tryz.Builder_String_any_k B b l w his (by omega)).mono ?_
  rintro e w' ⟨rfl, _, h2, h3⟩
  exact ⟨rfl, h2, h3⟩

end Go.Proofs.YtjbllanlfgbpkaaGreatDoor
