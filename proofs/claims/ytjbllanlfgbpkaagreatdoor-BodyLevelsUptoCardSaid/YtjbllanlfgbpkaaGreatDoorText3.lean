/- body.Text -/
import Derived.Test.YtjbllanlfgbpkaaGreatDoorText2
namespace Go.Proofs.YtjbllanlfgbpkaaGreatDoor
open Go.RowKit

attribute [local go_sem] Oper.semAt_some wide_fn wide_depth round_fn round_depth

/-- The contract of body.content on the readable leaves of a class. -/
def ContOk (cont : PartD → Sp.Bs) (Sub : PartD → Prop) : Prop :=
  ∀ d, Sub d → Sp.readT d.type = true → (cont d).length ≤ 1000000 ∧ (d.type ≠ Sp.plainT → (Sp.html1 (cont d)).isSome = true) ∧
    ∀ (v : Value) (w : World), PartAt w d v → G w → Calls Tryz.prog 32 #[v] w fun e w' => e = .returned (str (cont d)) ∧ Ext w w'

def Sp.isPlain (d : PartD) : Bool := d.type == Sp.plainT
def Sp.plains (cont : PartD → Sp.Bs) (ds : List PartD) : Sp.Bs := ds.flatMap fun d => if Sp.isPlain d then Sp.tidy (cont d) else []
def Sp.others (cont : PartD → Sp.Bs) (ds : List PartD) : List Sp.Bs := (ds.filter (fun d => !Sp.isPlain d)).map cont
def Sp.htmlText (s : Sp.Bs) : Sp.Bs := Sp.tidy (Sp.dense ((Sp.html1 s).getD []))
/-- body.Text -/
def Sp.text (att : PartD → Bool) (cont : PartD → Sp.Bs) (d : PartD) : Sp.Bs :=
  if Sp.within d then (if (Sp.readable att d).any Sp.isPlain then Sp.plains cont (Sp.readable att d) else (Sp.others cont (Sp.readable att d)).flatMap Sp.htmlText) else []

mutual
theorem readable_sub {att : PartD → Bool} {Sub : PartD → Prop} (hS : ∀ d, Sub d → ∀ c ∈ d.parts, Sub c) : ∀ (d : PartD), Sub d → ∀ x ∈ Sp.readable att d, Sub x ∧ Sp.readT x.type = true
  | .mk f t p b q, h => by
    rw [Sp.readable]
    split
    · intro x hx; cases hx
    · split
      · split
        · rename_i hr
          intro x hx
          rw [List.mem_singleton] at hx
          subst hx; exact ⟨h, hr⟩
        · intro x hx; cases hx
      · exact readableL_sub hS _ q 0 (fun c hc => hS _ h c hc)
theorem readableL_sub {att : PartD → Bool} {Sub : PartD → Prop} (hS : ∀ d, Sub d → ∀ c ∈ d.parts, Sub c) (sel : Nat → Bool) : ∀ (q : List PartD) (n : Nat), (∀ c ∈ q, Sub c) → ∀ x ∈ Sp.readableL att sel q n, Sub x ∧ Sp.readT x.type = true
  | [], _, _ => by rw [Sp.readableL]; intro x hx; cases hx
  | d :: q, n, h => by
    rw [Sp.readableL]
    intro x hx
    rcases List.mem_append.1 hx with hx | hx
    · split at hx
      · exact readable_sub hS d (h d (by simp)) x hx
      · cases hx
    · exact readableL_sub hS sel q (n + 1) (fun c hc => h c (by simp [hc])) x hx
end

theorem Sp.plains_succ (cont : PartD → Sp.Bs) (ds : List PartD) (k : Nat) (d : PartD) (h : ds[k]? = some d) : Sp.plains cont (ds.take (k + 1)) = Sp.plains cont (ds.take k) ++ (if Sp.isPlain d then Sp.tidy (cont d) else []) := by
  unfold Sp.plains
  rw [List.take_add_one, h]
  simp
theorem Sp.others_succ (cont : PartD → Sp.Bs) (ds : List PartD) (k : Nat) (d : PartD) (h : ds[k]? = some d) : Sp.others cont (ds.take (k + 1)) = Sp.others cont (ds.take k) ++ (if Sp.isPlain d then [] else [cont d]) := by
  unfold Sp.others
  rw [List.take_add_one, h]
  cases hp : Sp.isPlain d <;> simp [hp]
theorem Sp.any_succ (ds : List PartD) (k : Nat) (d : PartD) (h : ds[k]? = some d) : (ds.take (k + 1)).any Sp.isPlain = ((ds.take k).any Sp.isPlain || Sp.isPlain d) := by
  rw [List.take_add_one, h]
  simp
theorem Sp.others_len (cont : PartD → Sp.Bs) (ds : List PartD) : (Sp.others cont ds).length ≤ ds.length := by
  unfold Sp.others
  rw [List.length_map]
  exact List.length_filter_le _ _
theorem Sp.plains_len (cont : PartD → Sp.Bs) (ds : List PartD) (h : ∀ d ∈ ds, (cont d).length ≤ 1000000) : (Sp.plains cont ds).length ≤ 1000001 * ds.length := by
  unfold Sp.plains
  induction ds with
  | nil => exact Nat.zero_le _
  | cons d ds ih =>
    have h1 := ih (fun d hd => h d (by simp [hd]))
    have h2 := h d (by simp)
    have h3 := Sp.tidy_len (cont d)
    simp only [List.flatMap_cons, List.length_append, List.length_cons]
    split
    · omega
    · simp only [List.length_nil]; omega

theorem Sp.html1_len : ∀ (m : Nat) (t out : Sp.Bs), t.length ≤ m → Sp.html1 t = some out → out.length ≤ t.length := by
  intro m
  induction m with
  | zero =>
    intro t out ht h
    obtain rfl : t = [] := List.length_eq_zero_iff.1 (by omega)
    cases h
    exact Nat.le_refl _
  | succ m ih =>
    intro t out ht h
    by_cases h0 : t = []
    · subst h0; cases h; exact Nat.le_refl _
    · rw [Sp.html1_step t h0] at h
      cases hs : Sp.htmlStep t with
      | none => rw [hs] at h; cases h
      | some p =>
        rw [hs] at h
        simp only [Option.bind_some] at h
        obtain ⟨r2, hr2, he⟩ := Option.map_eq_some_iff.1 h
        obtain ⟨a1, a2, a3⟩ := Sp.htmlStep_len _ _ _ hs
        have := ih (t.drop p.1) r2 (by rw [List.length_drop]; omega) hr2
        rw [List.length_drop] at this
        rw [← he, List.length_append]
        omega
def Sp.othersText (ls : List Sp.Bs) : Sp.Bs := ls.flatMap Sp.htmlText
theorem Sp.othersText_succ (ls : List Sp.Bs) (q : Nat) (l : Sp.Bs) (h : ls[q]? = some l) : Sp.othersText (ls.take (q + 1)) = Sp.othersText (ls.take q) ++ Sp.htmlText l := by
  unfold Sp.othersText
  rw [List.take_add_one, h]
  simp
theorem Sp.dense_len (t : Sp.Bs) : (Sp.dense t).length ≤ 2 * (t.length + 1) := by
  have := Sp.dense_take_len t (Sp.lines t).length
  rwa [List.take_length] at this
theorem Sp.htmlText_len (s out : Sp.Bs) (h : Sp.html1 s = some out) : (Sp.htmlText s).length ≤ 2 * (s.length + 1) + 1 := by
  unfold Sp.htmlText
  rw [h, Option.getD_some]
  have h1 := Sp.html1_len s.length s out (Nat.le_refl _) h
  have h2 := Sp.dense_len out
  have h3 := Sp.tidy_len (Sp.dense out)
  omega
theorem Sp.othersText_len (ls : List Sp.Bs) (h : ∀ s ∈ ls, s.length ≤ 1000000 ∧ (Sp.html1 s).isSome = true) : (Sp.othersText ls).length ≤ 2000003 * ls.length := by
  unfold Sp.othersText
  induction ls with
  | nil => exact Nat.zero_le _
  | cons s ls ih =>
    have h1 := ih (fun d hd => h d (by simp [hd]))
    obtain ⟨h2, h3⟩ := h s (by simp)
    obtain ⟨out, ho⟩ := Option.isSome_iff_exists.1 h3
    have h4 := Sp.htmlText_len s out ho
    simp only [List.flatMap_cons, List.length_append, List.length_cons]
    omega

set_option maxRecDepth 100000 in
set_option maxHeartbeats 4000000 in
theorem text_in {att : PartD → Bool} {cont : PartD → Sp.Bs} {Sub : PartD → Prop} (hA : AttOk att Sub) (hC : ContOk cont Sub) (d : PartD) (v : Value) (w : World) (hG : G w) (hs : Sub d) (hv : PartAt w d v) (hin : Sp.within d = true) (hcount : (Sp.readable att d).length ≤ 1000) :
    Calls Tryz.prog 10 #[v] w fun e w' => e = .returned (str (Sp.text att cont d)) ∧ Ext w w' := by
  obtain ⟨a0, c0, a2, c2, a4, c4, rfl⟩ := hv.shape
  have hsub := readable_sub hA.1 d hs (att := att)
  have hRA := reads_at att d _ hv
  have hRF := reads_fst w att d (.agg #[.slice a0 d.fields.length c0, str d.type, .slice a2 d.params.length c2, str d.body, .slice a4 d.parts.length c4])
  refine (callsIn_wide (n := 0)).1 (callsIn_of_wp_marks Tryz.func10 rfl trivial ?_ rfl)
  simp only [Tryz.ntmps10, List.size_toArray, List.length_cons, List.length_nil, Nat.reduceAdd, Nat.reduceSub, Array.replicate_succ, Array.replicate_zero, List.push_toArray, List.append_toArray, List.nil_append, List.cons_append]
  have hx1 : Ext w (w.alloc (.cells #[.slice a0 d.fields.length c0, str d.type, .slice a2 d.params.length c2, str d.body, .slice a4 d.parts.length c4] 26)) := ext_alloc (Below.refl _ _) _
  gi_wp2_with fail
  refine (callsIn_wide.2 (within_any d _ _ (PartAt.ext hx1 _ _ hv))).mono ?_
  rintro e w2 ⟨rfl, hx2⟩
  rw [hin]
  obtain ⟨b0, b1, b2, b3, b4⟩ := box5 hx2
  have hx2' := ext_trans hx1 hx2
  have hx3 : Ext w2 (((w2.alloc (.cells #[.pointer none, .slice none 0 0] 54)).alloc (.cells #[.slice none 0 0] 33)).alloc (.cells #[.bool false] 4)) := ext_alloc (ext_alloc (ext_alloc (Below.refl _ _) _) _) _
  replace b0 := cell_ext hx3 b0
  replace b1 := cell_ext hx3 b1
  replace b2 := cell_ext hx3 b2
  replace b3 := cell_ext hx3 b3
  replace b4 := cell_ext hx3 b4
  gi_wp2_with fail
  refine (callsIn_wide.2 (readable_any _ _ _ _ _ _)).mono ?_
  rintro e w3 ⟨rfl, rfl⟩
  gi_wp2_with fail
  have hx4 : Ext w2 ((((w2.alloc (.cells #[.pointer none, .slice none 0 0] 54)).alloc (.cells #[.slice none 0 0] 33)).alloc (.cells #[.bool false] 4)).alloc (.cells #[.slice a0 d.fields.length c0, str d.type, .slice a2 d.params.length c2, str d.body, .slice a4 d.parts.length c4] 26)) := ext_alloc hx3 _
  have hbx : ((((w2.alloc (.cells #[.pointer none, .slice none 0 0] 54)).alloc (.cells #[.slice none 0 0] 33)).alloc (.cells #[.bool false] 4)).alloc (.cells #[.slice a0 d.fields.length c0, str d.type, .slice a2 d.params.length c2, str d.body, .slice a4 d.parts.length c4] 26)).heap[w2.heap.size + 1 + 1 + 1]? = some (.cells #[.slice a0 d.fields.length c0, str d.type, .slice a2 d.params.length c2, str d.body, .slice a4 d.parts.length c4] 26 (0, 0)) := by
    have := heap_alloc_new (((w2.alloc (.cells #[.pointer none, .slice none 0 0] 54)).alloc (.cells #[.slice none 0 0] 33)).alloc (.cells #[.bool false] 4)) (.cells #[.slice a0 d.fields.length c0, str d.type, .slice a2 d.params.length c2, str d.body, .slice a4 d.parts.length c4] 26)
    simpa using this
  have hI0 : TI w w2.heap.size (w2.heap.size + 1) (w2.heap.size + 1 + 1) [] [] false (RB w (w2.heap.size + 1 + 1 + 1)) ((((w2.alloc (.cells #[.pointer none, .slice none 0 0] 54)).alloc (.cells #[.slice none 0 0] 33)).alloc (.cells #[.bool false] 4)).alloc (.cells #[.slice a0 d.fields.length c0, str d.type, .slice a2 d.params.length c2, str d.body, .slice a4 d.parts.length c4] 26)) := by
    have hsz := hx2'.size
    refine ⟨none, .slice none 0 0, (Bld.new w2).ext (ext_alloc (ext_alloc (ext_alloc (Below.refl _ _) _) _) _), ?_, World.ownsRow_nil _ _ _ _, ?_, ⟨fun h => by rcases h with h | h <;> omega, fun h => by rcases h with h | h <;> omega, fun h => by rcases h with h | h <;> omega⟩, (fun g e => by cases e), (fun g e => by cases e), ext_trans hx2' hx4, ?_, ⟨hsz, by omega, by omega⟩, by omega, by omega, by omega⟩
    · have := heap_alloc_new (w2.alloc (.cells #[.pointer none, .slice none 0 0] 54)) (.cells #[.slice none 0 0] 33)
      rw [World.size_alloc] at this
      exact (Below.heap_alloc _ _ _ (by simp)).trans ((Below.heap_alloc _ _ _ (by simp)).trans this)
    · have := heap_alloc_new ((w2.alloc (.cells #[.pointer none, .slice none 0 0] 54)).alloc (.cells #[.slice none 0 0] 33)) (.cells #[.bool false] 4)
      rw [World.size_alloc, World.size_alloc] at this
      exact (Below.heap_alloc _ _ _ (by simp)).trans this
    · rintro k (h | h) <;> simp <;> omega
  have hit := readable_iter hA w ((((w2.alloc (.cells #[.pointer none, .slice none 0 0] 54)).alloc (.cells #[.slice none 0 0] 33)).alloc (.cells #[.bool false] 4)).alloc (.cells #[.slice a0 d.fields.length c0, str d.type, .slice a2 d.params.length c2, str d.body, .slice a4 d.parts.length c4] 26)) d _ _ _ _ _ (w2.heap.size + 1 + 1 + 1) hG hs hv (ext_trans hx2' hx4) hbx
  have hxs : ∀ (k : Nat) (x : Value), ((reads w att d (.agg #[.slice a0 d.fields.length c0, str d.type, .slice a2 d.params.length c2, str d.body, .slice a4 d.parts.length c4])).map Prod.snd)[k]? = some x → ∃ q : PartD, (Sp.readable att d)[k]? = some q ∧ PartAt w q x ∧ Sub q ∧ Sp.readT q.type = true := by
    intro k x hx
    rw [List.getElem?_map] at hx
    obtain ⟨y, hy, rfl⟩ := Option.map_eq_some_iff.1 hx
    have hk : (Sp.readable att d)[k]? = some y.1 := by rw [← hRF, List.getElem?_map, hy]; rfl
    exact ⟨y.1, hk, hRA y (List.mem_of_getElem? hy), hsub y.1 (List.mem_of_getElem? hk)⟩
  have hlen : ((reads w att d (.agg #[.slice a0 d.fields.length c0, str d.type, .slice a2 d.params.length c2, str d.body, .slice a4 d.parts.length c4])).map Prod.snd).length = (Sp.readable att d).length := by rw [← hRF, List.length_map, List.length_map]
  generalize hds : Sp.readable att d = ds at *
  generalize (reads w att d (.agg #[.slice a0 d.fields.length c0, str d.type, .slice a2 d.params.length c2, str d.body, .slice a4 d.parts.length c4])).map Prod.snd = xs at *
  have hsz2 := hx2'.size
  have hI0sz := hI0.wext.size
  generalize ((((w2.alloc (.cells #[.pointer none, .slice none 0 0] 54)).alloc (.cells #[.slice none 0 0] 33)).alloc (.cells #[.bool false] 4)).alloc (.cells #[.slice a0 d.fields.length c0, str d.type, .slice a2 d.params.length c2, str d.body, .slice a4 d.parts.length c4] 26)) = w4 at *
  refine wp_range2 (gf := 69) (lb := #[.pointer (some ⟨w2.heap.size + 1 + 1 + 1, 0, none⟩)]) rfl (enters_of Tryz.func69 (by kernel_rfl) rfl) hit (Only.refl _ _)
    ?r1 ?r1 rfl (fun k T W => TI w w2.heap.size (w2.heap.size + 1) (w2.heap.size + 1 + 1) (Sp.plains cont (ds.take k)) (Sp.others cont (ds.take k)) ((ds.take k).any Sp.isPlain) T W) (fun _ _ _ => False)
    (TI.abides w _ _ _ _ _ _ _ hI0.wext.size) (fun _ _ _ _ _ _ h => h.elim) hI0
    (fun x a T W => ∃ b v0 v1 v2 v3 v4, x = .agg #[v0, v1, v2, v3, v4] ∧ a = { tmps := #[.agg #[.slice a0 d.fields.length c0, str d.type, .slice a2 d.params.length c2, str d.body, .slice a4 d.parts.length c4], .pointer (some ⟨w.heap.size, 0, none⟩), .string { data := #[] }, .pointer (some ⟨w2.heap.size, 0, none⟩), .pointer (some ⟨w2.heap.size + 1, 0, none⟩), .pointer (some ⟨w2.heap.size + 1 + 1, 0, none⟩), .pointer (some ⟨b, 0, none⟩), undef, undef, undef, .agg #[.slice a0 d.fields.length c0, str d.type, .slice a2 d.params.length c2, str d.body, .slice a4 d.parts.length c4], .bool true, .bool false, .agg #[.slice a0 d.fields.length c0, str d.type, .slice a2 d.params.length c2, str d.body, .slice a4 d.parts.length c4], .func (.func 69) #[] #[.pointer (some ⟨w2.heap.size + 1 + 1 + 1, 0, none⟩)], x, undef, undef, undef, undef, undef, undef, undef, undef, undef, undef, undef, undef, undef, undef, undef, undef, undef, undef, undef, undef, undef, undef, undef, undef, undef, undef], defers := [] } ∧ ¬ T b ∧ W.heap[b]? = some (.cells #[v0, v1, v2, v3, v4] 26 (0, 0))) ?pre ?assign ?body ?done ?stop
  case r1 =>
    have := hI0
    obtain ⟨_, _, _, _, _, _, _, _, _, _, hT, _⟩ := this
    exact hT
  case pre =>
    rintro x a _ T T' W1 W2 ⟨b, v0, v1, v2, v3, v4, rfl, rfl, hb, hbk⟩ hO _ hT'
    have hlt := lt_of_block hbk
    exact ⟨b, v0, v1, v2, v3, v4, rfl, rfl, fun h => (hT' b h).elim hb (fun h => by omega), (hO.block b hlt (fun h => hb h.2)).trans hbk⟩
  case assign =>
    rintro l k x T W K hx hI hK
    obtain ⟨q, hq, hqp, _⟩ := hxs k x hx
    obtain ⟨a0, c0, a2, c2, a4, c4, rfl⟩ := hqp.shape
    gi_wp2_with fail
    refine hK _ _ (ext_alloc (Below.refl _ _) _) (hI.ext (ext_alloc (Below.refl _ _) _)) ⟨W.heap.size, _, _, _, _, _, rfl, rfl, fun h => ?_, heap_alloc_new _ _⟩
    obtain ⟨_, _, _, _, _, _, _, _, _, _, hT, _⟩ := hI
    have := hT _ h
    omega
  case body =>
    rintro l k x T W _ hx hI ⟨b, v0, v1, v2, v3, v4, rfl, rfl, hb, hbk⟩
    obtain ⟨q, hq, hqp, hqs, hqt⟩ := hxs k _ hx
    have hCq := hC q hqs hqt
    have hW := hI.wext
    have hqW := PartAt.ext hW _ _ hqp
    obtain ⟨a0, c0, a2, c2, a4, c4, he⟩ := hqp.shape
    cases he
    have e0 : W.cell? ⟨b, 0, none⟩ = some (.slice a0 q.fields.length c0) := by rw [Lib.cell_of_heap hbk]; rfl
    have e1 : W.cell? ⟨b, 1, none⟩ = some (str q.type) := by rw [Lib.cell_of_heap hbk]; rfl
    have e2 : W.cell? ⟨b, 2, none⟩ = some (.slice a2 q.params.length c2) := by rw [Lib.cell_of_heap hbk]; rfl
    have e3 : W.cell? ⟨b, 3, none⟩ = some (str q.body) := by rw [Lib.cell_of_heap hbk]; rfl
    have e4 : W.cell? ⟨b, 4, none⟩ = some (.slice a4 q.parts.length c4) := by rw [Lib.cell_of_heap hbk]; rfl
    have hbS : b ≠ w2.heap.size + 1 + 1 := by
      intro e
      obtain ⟨_, _, _, _, _, h3, _⟩ := hI
      rw [← e, hbk] at h3
      simp at h3
    have hP := Lib.hid (Sp.plains_succ cont ds k q hq)
    have hO := Lib.hid (Sp.others_succ cont ds k q hq)
    have hF := Lib.hid (Sp.any_succ ds k q hq)
    have hpl := Sp.plains_len cont (ds.take k) (fun d hd => (hC d (hsub d (List.mem_of_mem_take hd)).1 (hsub d (List.mem_of_mem_take hd)).2).1)
    have hol := Sp.others_len cont (ds.take k)
    have hkd : (ds.take k).length ≤ 1000 := by rw [List.length_take]; omega
    generalize Sp.plains cont (ds.take k) = pl at *
    generalize Sp.others cont (ds.take k) = ot at *
    generalize (ds.take k).any Sp.isPlain = fd at *
    cases hpt : Sp.isPlain q with
    | true =>
      rw [hpt] at hP hO hF
      unfold Sp.isPlain Sp.plainT at hpt
      obtain ⟨f1, f2, hI1, hO1⟩ := hI.found
      gi_wp2_with fail
      refine (CallsIn.inRound l (callsIn_wide.2 (hCq.2.2 _ _ (PartAt.ext hI1.wext _ _ hqp) (hG.ext hI1.wext)))).mono ?_
      rintro e W5 ⟨rfl, hx5⟩
      have hI5 := hI1.ext hx5
      gi_wp2_with fail
      refine (CallsIn.inRound l (callsIn_wide.2 (tidy_any _ _ (hG.ext hI5.wext) (by simp; omega)))).mono ?_
      rintro e W6 ⟨rfl, hx6⟩
      simp only [List.toList_toArray]
      have hI6 := hI5.ext hx6
      have htl := Sp.tidy_len (cont q)
      gi_wp2_with fail
      refine (CallsIn.inRound l (callsIn_wide.2 (hI6.write _ (by simp; omega)))).mono ?_
      rintro e W7 ⟨rfl, hI7, hO7⟩
      simp only [List.toList_toArray] at hI7
      gi_wp2_with fail
      refine ⟨((hO1.trans (Only.of_ext (M := fun _ => False) hx5) (fun _ _ h => h.elim)).trans (Only.of_ext (M := fun _ => False) hx6) (fun _ _ h => h.elim)).trans hO7 (fun _ _ h => h), ?_⟩
      show TI _ _ _ _ (Sp.plains cont (ds.take (k + 1))) (Sp.others cont (ds.take (k + 1))) ((ds.take (k + 1)).any Sp.isPlain) T _
      rw [hP.out, hO.out, hF.out]
      simpa using hI7
    | false =>
      rw [hpt] at hP hO hF
      unfold Sp.isPlain Sp.plainT at hpt
      obtain ⟨sv, hsv⟩ := hI.sv
      have hI1 := hI.ext (ext_drew (Below.refl W.heap.size W))
      have hO1 : Only (fun b => ¬ T b) W W.drew := Only.of_ext (ext_drew (Below.refl W.heap.size W))
      gi_wp2_with fail
      refine wpIn_region_any (by kernel_rfl) ?_
      try (change wpAnyIn _ _ _ _ _ _ _ _ _ (World.drew _))
      have hc1 : W.drew.cell? ⟨w2.heap.size + 1, 0, none⟩ = some sv := hsv
      clear hq hit hxs hI0 hbx hRF hRA
      refine wpAnyIn_ready (rs := [0, 1]) (by kernel_rfl) (by simp) ?_
      refine AllReadyIn.cons rfl (fun K hK => ?_) ?_
      · go_simp
        refine hK _ _ ?_
        clear hK K
        refine wpAnyIn_ready (rs := [1]) (by kernel_rfl) (by simp) ?_
        refine AllReadyIn.cons rfl (fun K hK => ?_) ?_
        · go_simp
          refine hK _ _ ?_
          clear hK K
          refine wpAnyIn_ready (rs := [2]) (by kernel_rfl) (by simp) ?_
          refine AllReadyIn.cons rfl (fun K hK => ?_) ?_
          · go_simp
            gi_wp2_with fail
            refine (CallsIn.inRound l (callsIn_wide.2 (hCq.2.2 _ _ (PartAt.ext hI1.wext _ _ hqp) (hG.ext hI1.wext)))).mono ?_
            rintro e W5 ⟨rfl, hx5⟩
            have hI5 := hI1.ext hx5
            have hc5 : W5.cell? ⟨w2.heap.size + 1, 0, none⟩ = some sv := cell_ext hx5 hc1
            have hc6 : (W5.alloc (.cells #[str (cont q)] 9)).cell? ⟨w2.heap.size + 1, 0, none⟩ = some sv := cell_ext (ext_alloc (Below.refl _ _) _) hc5
            obtain ⟨aa, nn, cc, W6, hrun, hcell6, hfr6, hI6, hO6⟩ := hI5.append (cont q) (by omega) hc5
            gi_wp2_with fail
            refine wpAnyIn_ready (rs := [3]) (by kernel_rfl) (by simp) ?_
            refine AllReadyIn.cons rfl (fun K hK => ?_) ?_
            · go_simp
              refine hK _ _ ?_
              clear hK K
              refine wpAnyIn_ready (rs := [4]) (by kernel_rfl) (by simp) ?_
              refine AllReadyIn.cons rfl (fun K hK => ?_) ?_
              · refine stepIn_append _ _ 33 rfl _ _ (.slice aa nn cc) W6 (by rfl) (by rfl) hrun (by rfl) (hK _ _ ?_)
                clear hK K
                refine wpAnyIn_ready (rs := [5]) (by kernel_rfl) (by simp) ?_
                refine AllReadyIn.cons rfl (fun K hK => ?_) ?_
                · go_simp
                  refine hK _ _ ?_
                  clear hK K
                  refine wpAnyIn_done (by kernel_rfl) ?_ _
                  gi_wp2_with fail
                  refine ⟨(hO1.trans (Only.of_ext (M := fun _ => False) hx5) (fun _ _ h => h.elim)).trans hO6 (fun _ _ h => h), ?_⟩
                  show TI _ _ _ _ (Sp.plains cont (ds.take (k + 1))) (Sp.others cont (ds.take (k + 1))) ((ds.take (k + 1)).any Sp.isPlain) T _
                  rw [hP.out, hO.out, hF.out]
                  simpa using hI6
                exact AllReadyIn.nil
              exact AllReadyIn.nil
            exact AllReadyIn.nil
          exact AllReadyIn.nil
        exact AllReadyIn.nil
      refine AllReadyIn.cons rfl (fun K hK => ?_) ?_
      · go_simp
        refine hK _ _ ?_
        clear hK K
        refine wpAnyIn_ready (rs := [0, 2]) (by kernel_rfl) (by simp) ?_
        refine AllReadyIn.cons rfl (fun K hK => ?_) ?_
        · go_simp
          refine hK _ _ ?_
          clear hK K
          refine wpAnyIn_ready (rs := [2]) (by kernel_rfl) (by simp) ?_
          refine AllReadyIn.cons rfl (fun K hK => ?_) ?_
          · go_simp
            gi_wp2_with fail
            refine (CallsIn.inRound l (callsIn_wide.2 (hCq.2.2 _ _ (PartAt.ext hI1.wext _ _ hqp) (hG.ext hI1.wext)))).mono ?_
            rintro e W5 ⟨rfl, hx5⟩
            have hI5 := hI1.ext hx5
            have hc5 : W5.cell? ⟨w2.heap.size + 1, 0, none⟩ = some sv := cell_ext hx5 hc1
            have hc6 : (W5.alloc (.cells #[str (cont q)] 9)).cell? ⟨w2.heap.size + 1, 0, none⟩ = some sv := cell_ext (ext_alloc (Below.refl _ _) _) hc5
            obtain ⟨aa, nn, cc, W6, hrun, hcell6, hfr6, hI6, hO6⟩ := hI5.append (cont q) (by omega) hc5
            gi_wp2_with fail
            refine wpAnyIn_ready (rs := [3]) (by kernel_rfl) (by simp) ?_
            refine AllReadyIn.cons rfl (fun K hK => ?_) ?_
            · go_simp
              refine hK _ _ ?_
              clear hK K
              refine wpAnyIn_ready (rs := [4]) (by kernel_rfl) (by simp) ?_
              refine AllReadyIn.cons rfl (fun K hK => ?_) ?_
              · refine stepIn_append _ _ 33 rfl _ _ (.slice aa nn cc) W6 (by rfl) (by rfl) hrun (by rfl) (hK _ _ ?_)
                clear hK K
                refine wpAnyIn_ready (rs := [5]) (by kernel_rfl) (by simp) ?_
                refine AllReadyIn.cons rfl (fun K hK => ?_) ?_
                · go_simp
                  refine hK _ _ ?_
                  clear hK K
                  refine wpAnyIn_done (by kernel_rfl) ?_ _
                  gi_wp2_with fail
                  refine ⟨(hO1.trans (Only.of_ext (M := fun _ => False) hx5) (fun _ _ h => h.elim)).trans hO6 (fun _ _ h => h), ?_⟩
                  show TI _ _ _ _ (Sp.plains cont (ds.take (k + 1))) (Sp.others cont (ds.take (k + 1))) ((ds.take (k + 1)).any Sp.isPlain) T _
                  rw [hP.out, hO.out, hF.out]
                  simpa using hI6
                exact AllReadyIn.nil
              exact AllReadyIn.nil
            exact AllReadyIn.nil
          exact AllReadyIn.nil
        refine AllReadyIn.cons rfl (fun K hK => ?_) ?_
        · go_simp
          gi_wp2_with fail
          refine (CallsIn.inRound l (callsIn_wide.2 (hCq.2.2 _ _ (PartAt.ext hI1.wext _ _ hqp) (hG.ext hI1.wext)))).mono ?_
          rintro e W5 ⟨rfl, hx5⟩
          have hI5 := hI1.ext hx5
          have hc5 : W5.cell? ⟨w2.heap.size + 1, 0, none⟩ = some sv := cell_ext hx5 hc1
          have hc6 : (W5.alloc (.cells #[str (cont q)] 9)).cell? ⟨w2.heap.size + 1, 0, none⟩ = some sv := cell_ext (ext_alloc (Below.refl _ _) _) hc5
          obtain ⟨aa, nn, cc, W6, hrun, hcell6, hfr6, hI6, hO6⟩ := hI5.append (cont q) (by omega) hc5
          gi_wp2_with fail
          refine wpAnyIn_ready (rs := [0, 3]) (by kernel_rfl) (by simp) ?_
          refine AllReadyIn.cons rfl (fun K hK => ?_) ?_
          · go_simp
            refine hK _ _ ?_
            clear hK K
            refine wpAnyIn_ready (rs := [3]) (by kernel_rfl) (by simp) ?_
            refine AllReadyIn.cons rfl (fun K hK => ?_) ?_
            · go_simp
              refine hK _ _ ?_
              clear hK K
              refine wpAnyIn_ready (rs := [4]) (by kernel_rfl) (by simp) ?_
              refine AllReadyIn.cons rfl (fun K hK => ?_) ?_
              · refine stepIn_append _ _ 33 rfl _ _ (.slice aa nn cc) W6 (by rfl) (by rfl) hrun (by rfl) (hK _ _ ?_)
                clear hK K
                refine wpAnyIn_ready (rs := [5]) (by kernel_rfl) (by simp) ?_
                refine AllReadyIn.cons rfl (fun K hK => ?_) ?_
                · go_simp
                  refine hK _ _ ?_
                  clear hK K
                  refine wpAnyIn_done (by kernel_rfl) ?_ _
                  gi_wp2_with fail
                  refine ⟨(hO1.trans (Only.of_ext (M := fun _ => False) hx5) (fun _ _ h => h.elim)).trans hO6 (fun _ _ h => h), ?_⟩
                  show TI _ _ _ _ (Sp.plains cont (ds.take (k + 1))) (Sp.others cont (ds.take (k + 1))) ((ds.take (k + 1)).any Sp.isPlain) T _
                  rw [hP.out, hO.out, hF.out]
                  simpa using hI6
                exact AllReadyIn.nil
              exact AllReadyIn.nil
            exact AllReadyIn.nil
          refine AllReadyIn.cons rfl (fun K hK => ?_) ?_
          · go_simp
            refine hK _ _ ?_
            clear hK K
            refine wpAnyIn_ready (rs := [0]) (by kernel_rfl) (by simp) ?_
            refine AllReadyIn.cons rfl (fun K hK => ?_) ?_
            · go_simp
              refine hK _ _ ?_
              clear hK K
              refine wpAnyIn_ready (rs := [4]) (by kernel_rfl) (by simp) ?_
              refine AllReadyIn.cons rfl (fun K hK => ?_) ?_
              · refine stepIn_append _ _ 33 rfl _ _ (.slice aa nn cc) W6 (by rfl) (by rfl) hrun (by rfl) (hK _ _ ?_)
                clear hK K
                refine wpAnyIn_ready (rs := [5]) (by kernel_rfl) (by simp) ?_
                refine AllReadyIn.cons rfl (fun K hK => ?_) ?_
                · go_simp
                  refine hK _ _ ?_
                  clear hK K
                  refine wpAnyIn_done (by kernel_rfl) ?_ _
                  gi_wp2_with fail
                  refine ⟨(hO1.trans (Only.of_ext (M := fun _ => False) hx5) (fun _ _ h => h.elim)).trans hO6 (fun _ _ h => h), ?_⟩
                  show TI _ _ _ _ (Sp.plains cont (ds.take (k + 1))) (Sp.others cont (ds.take (k + 1))) ((ds.take (k + 1)).any Sp.isPlain) T _
                  rw [hP.out, hO.out, hF.out]
                  simpa using hI6
                exact AllReadyIn.nil
              exact AllReadyIn.nil
            exact AllReadyIn.nil
          exact AllReadyIn.nil
        exact AllReadyIn.nil
      exact AllReadyIn.nil
  case done =>
    rintro D T W hD hTD hI hK
    rw [hlen, List.take_length] at hI
    have HT : Hid (Sp.text att cont d = if ds.any Sp.isPlain then Sp.plains cont ds else Sp.othersText (Sp.others cont ds)) := by
      unfold Hid Sp.text Sp.othersText
      rw [hin, hds, if_pos rfl]
    have hoth : ∀ s ∈ Sp.others cont ds, s.length ≤ 1000000 ∧ (Sp.html1 s).isSome = true := by
      intro s hsm
      unfold Sp.others at hsm
      obtain ⟨q, hq, rfl⟩ := List.mem_map.1 hsm
      obtain ⟨hqm, hqp⟩ := List.mem_filter.1 hq
      obtain ⟨h1, h2, _⟩ := hC q (hsub q hqm).1 (hsub q hqm).2
      refine ⟨h1, h2 ?_⟩
      intro e
      unfold Sp.isPlain at hqp
      rw [e] at hqp
      simp at hqp
    have hol := Sp.others_len cont ds
    generalize Sp.plains cont ds = pl at *
    generalize Sp.others cont ds = ot at *
    have hDlt : D < W.heap.size := lt_of_block hK
    obtain ⟨o, sv, hB, h2, hown, h3, ⟨t1, t2, t3⟩, ho, hsv, hE, hTs, hws, hne1, hne2, hne3⟩ := hI
    have cf := cell_of_one h3
    have cs := cell_of_one h2
    clear hit hxs hI0 hbx hRF hRA hC hsub
    cases hfd : ds.any Sp.isPlain with
    | true =>
      rw [hfd] at HT cf
      gi_wp2_with fail
      refine (callsIn_wide.2 (bldString_any hB w.heap.size hws.1 (fun g hg => (ho g hg).2.1))).mono ?_
      rintro e W2 ⟨rfl, hB2, hK2⟩
      have hKD : W2.heap[D]? = some (.deferred (some [])) := hK2 D _ hK (fun e => by cases e; exact t1 hTD) (fun _ _ e => by cases e)
      have hE2 : Ext w W2 := hE.trans hB2
      gi_wp2
      refine ⟨by simp, .inl ⟨_, _, rfl, run_takeDeferred hKD, ?_⟩⟩
      refine ⟨_, results_tmp rfl _ _ _, ?_, ?_⟩
      · rw [HT.out]; rfl
      · exact hE2.trans ((Only.refl (fun k => k = D) W2).grown (grownBy_putObj' _ D _) (fun k e _ => by cases e; rfl) |>.below hE2.size (fun k hk e => by subst e; have := hI0sz; omega))
    | false =>
      rw [hfd] at HT cf
      have hSA := StrsAt.of_own hown
      have hx5 : Ext w (W.alloc (.cells #[.pointer none, .slice none 0 0] 54)) := ext_alloc hE _
      have cs5 := cell_ext (ext_alloc (Below.refl W.heap.size W) (.cells #[.pointer none, .slice none 0 0] 54)) cs
      have hI5 := BW.new (Bld.new W)
      have hK5 : (W.alloc (.cells #[.pointer none, .slice none 0 0] 54)).heap[D]? = some (.deferred (some [])) := (Below.heap_alloc _ _ _ hDlt).trans hK
      have hws5 : w.heap.size ≤ W.heap.size := hE.size
      replace hSA := hSA.ext (ext_alloc (Below.refl W.heap.size W) (.cells #[.pointer none, .slice none 0 0] 54))
      have HOT := Lib.hid hoth
      have hgl : ∀ g, sv.ownBlock = some g → g < W.heap.size := fun g hg => (hown.lt g hg).2
      clear hB h2 hown h3 ho hsv hTs hws hne1 hne2 hne3 t1 t2 t3 hx1 hx2 hx2' hx3 hx4 b0 b1 b2 b3 b4 hds hoth hv
      generalize hW5 : W.alloc (.cells #[.pointer none, .slice none 0 0] 54) = W5 at *
      rcases hSA with ⟨rfl, a, c, rfl⟩ | ⟨g, o', c, rfl, hg, hcell⟩
      · gi_wp2_with fail
        gi_loopw [32] (fun j wr2 => j = .int .i64 0 ∧ wr2 = W5) (fun _ _ => 0)
        case atStart => exact ⟨rfl, rfl⟩
        case round =>
          obtain ⟨rfl, rfl⟩ := hrel
          gi_wp2_with fail
          refine (callsIn_wide.2 (bwString_any hI5 w.heap.size hws5 hx5.size)).mono ?_
          rintro e W6 ⟨rfl, hB6, hK6⟩
          have hKD : W6.heap[D]? = some (.deferred (some [])) := hK6 D _ hK5 (fun e => by cases e; omega) (fun _ _ e => by cases e)
          have hE6 : Ext w W6 := hx5.trans hB6
          gi_wp2
          refine ⟨by simp, .inl ⟨_, _, rfl, run_takeDeferred hKD, ?_⟩⟩
          refine ⟨_, results_tmp rfl _ _ _, ?_, ?_⟩
          · rw [HT.out]; rfl
          · exact hE6.trans ((Only.refl (fun k => k = D) W6).grown (grownBy_putObj' _ D _) (fun k e _ => by cases e; rfl) |>.below hE6.size (fun k hk e => by subst e; omega))
      · have hgW : g < W.heap.size := hgl g rfl
        have HC := Lib.hid hcell
        clear hcell hgl
        gi_wp2_with fail
        gi_loopw [32] (fun j wr2 => ∃ (q : Nat), j = .int .i64 q ∧ q ≤ ot.length ∧ BW W5 W.heap.size (Sp.othersText (ot.take q)) wr2) (fun j _ => ot.length - (intOf j).toNat)
        case atStart => exact ⟨0, rfl, Nat.zero_le _, hI5⟩
        case round =>
          obtain ⟨q, rfl, hql, hIq⟩ := hrel
          by_cases hlq : q < ot.length
          case neg =>
            have hdone : Hid (Sp.text att cont d = Sp.othersText (ot.take q)) := by
              unfold Hid
              rw [HT.out, List.take_of_length_le (by omega)]
              rfl
            have hKq : wr.heap[D]? = some (.deferred (some [])) := by
              obtain ⟨ob, _, _, hOx⟩ := hIq
              exact (hOx.block D (lt_of_block hK5) (by omega)).trans hK5
            gi_wp2_with fail
            refine (callsIn_wide.2 (bwString_any hIq w.heap.size hws5 hx5.size)).mono ?_
            rintro e W6 ⟨rfl, hB6, hK6⟩
            have hKD : W6.heap[D]? = some (.deferred (some [])) := hK6 D _ hKq (fun e => by cases e; omega) (fun _ _ e => by cases e)
            have hE6 : Ext w W6 := (hIq.ext0 hx5 hws5).trans hB6
            gi_wp2
            refine ⟨by simp, .inl ⟨_, _, rfl, run_takeDeferred hKD, ?_⟩⟩
            refine ⟨_, results_tmp rfl _ _ _, ?_, ?_⟩
            · rw [hdone.out]; rfl
            · exact hE6.trans ((Only.refl (fun k => k = D) W6).grown (grownBy_putObj' _ D _) (fun k e _ => by cases e; rfl) |>.below hE6.size (fun k hk e => by subst e; omega))
          have hl : ot[q]? = some ot[q] := List.getElem?_eq_getElem hlq
          have hc1 : wr.cell? ⟨g, o' + q, none⟩ = some (str ot[q]) := by
            obtain ⟨ob, _, _, hOx⟩ := hIq
            rw [World.cell?_of_block (a := ⟨g, o' + q, none⟩) (hOx.block g hg (by omega))]
            exact HC.out q _ hl
          obtain ⟨hsl, hsh⟩ := HOT.out ot[q] (List.getElem_mem hlq)
          obtain ⟨out, hout⟩ := Option.isSome_iff_exists.1 hsh
          have hlen1 := Sp.othersText_len (ot.take q) (fun s hs => HOT.out s (List.mem_of_mem_take hs))
          rw [List.length_take] at hlen1
          have hlen2 := Sp.htmlText_len ot[q] out hout
          have hlen3 := Sp.html1_len _ _ out (Nat.le_refl _) hout
          have hlen4 := Sp.dense_len out
          have HS1 := Lib.hid (Sp.othersText_succ ot q _ hl)
          have hht : Hid (Sp.htmlText ot[q] = Sp.tidy (Sp.dense out)) := by unfold Hid Sp.htmlText; rw [hout]; rfl
          rw [hht.out] at hlen2
          have hGr := hG.ext (hIq.ext0 hx5 hws5)
          clear hl hsh
          generalize ot[q] = ln at *
          gi_wp2_with fail
          refine (callsIn_wide.2 (html_any _ _ out hGr (by simp; omega) (by simpa using hout))).mono ?_
          rintro e W7 ⟨rfl, hx7⟩
          gi_wp2_with fail
          refine (callsIn_wide.2 (tidy_any _ _ (hGr.ext hx7) (by simp; omega))).mono ?_
          rintro e W8 ⟨rfl, hx8⟩
          simp only [List.toList_toArray]
          replace hIq := (hIq.ext hx7).ext hx8
          generalize Sp.tidy (Sp.dense out) = sq at *
          gi_wp2_with fail
          refine (callsIn_wide.2 (bwWriteString_any _ hIq (by simp; omega))).mono ?_
          rintro e W9 ⟨rfl, hI9⟩
          simp only [List.toList_toArray] at hI9
          rw [← hht.out, ← HS1.out] at hI9
          gi_wp2_with fail
          exact ⟨⟨q + 1, by go_num, hlq, hI9⟩, by simp [intOf]; omega⟩
  case stop =>
    rintro D c T W hD hTD h
    exact h.elim

set_option maxHeartbeats 1000000 in
theorem text_any {att : PartD → Bool} {cont : PartD → Sp.Bs} {Sub : PartD → Prop} (hA : AttOk att Sub) (hC : ContOk cont Sub) (d : PartD) (v : Value) (w : World) (hG : G w) (hs : Sub d) (hv : PartAt w d v) (hcount : (Sp.readable att d).length ≤ 1000) :
    Calls Tryz.prog 10 #[v] w fun e w' => e = .returned (str (Sp.text att cont d)) ∧ Ext w w' := by
  cases hin : Sp.within d with
  | true => exact text_in hA hC d v w hG hs hv hin hcount
  | false =>
    have HT := Lib.hid (show Sp.text att cont d = [] by unfold Sp.text; rw [hin]; rfl)
    obtain ⟨a0, c0, a2, c2, a4, c4, rfl⟩ := hv.shape
    have hx1 : Ext w (w.alloc (.cells #[.slice a0 d.fields.length c0, str d.type, .slice a2 d.params.length c2, str d.body, .slice a4 d.parts.length c4] 26)) := ext_alloc (Below.refl _ _) _
    refine (callsIn_wide (n := 0)).1 (callsIn_of_wp_marks Tryz.func10 rfl trivial ?_ rfl)
    simp only [Tryz.ntmps10, List.size_toArray, List.length_cons, List.length_nil, Nat.reduceAdd, Nat.reduceSub, Array.replicate_succ, Array.replicate_zero, List.push_toArray, List.append_toArray, List.nil_append, List.cons_append]
    gi_wp2_with fail
    refine (callsIn_wide.2 (within_any d _ _ (PartAt.ext hx1 _ _ hv))).mono ?_
    rintro e w2 ⟨rfl, hx2⟩
    rw [hin]
    gi_wp2_with fail
    exact ⟨_, results_tmp rfl _ _ _, by rw [HT.out]; rfl, ext_trans hx1 hx2⟩

end Go.Proofs.YtjbllanlfgbpkaaGreatDoor
