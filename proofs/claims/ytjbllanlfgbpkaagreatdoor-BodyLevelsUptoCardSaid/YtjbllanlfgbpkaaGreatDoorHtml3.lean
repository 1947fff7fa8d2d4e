/- body.Html -/
import Derived.Test.YtjbllanlfgbpkaaGreatDoorEnt
namespace Go.Proofs.YtjbllanlfgbpkaaGreatDoor
open Go.RowKit

/-- A Builder b of the caller's own, in a plain loop; w0: the world in which the loop began. -/
def BW (w0 : World) (b : Nat) (acc : Sp.Bs) (w : World) : Prop :=
  ∃ o, Bld b o acc w ∧ (∀ g, o = some g → w0.heap.size ≤ g) ∧ Only (· = b) w0 w
theorem BW.new {w : World} {b : Nat} (h : Bld b none [] w) : BW w b [] w := ⟨none, h, (fun g e => by cases e), Only.refl _ _⟩
theorem BW.only {M : Nat → Prop} {w0 : World} {b : Nat} {acc : Sp.Bs} {w w' : World} (h : BW w0 b acc w) (hO : Only M w w') (h1 : ∀ k, M k → k < w0.heap.size ∧ k ≠ b → False) (h2 : ¬ M b) (h3 : ∀ k, w0.heap.size ≤ k → k < w.heap.size → ¬ M k) : BW w0 b acc w' := by
  obtain ⟨o, hb, ho, hx⟩ := h
  exact ⟨o, hb.only hO h2 (fun g hg hm => h3 g (ho g hg) (hb.lt_own g hg) hm), ho, hx.trans hO (fun k hk hm => by
    by_cases e : k = b
    · exact e
    · exact (h1 k hm ⟨hk, e⟩).elim)⟩
theorem BW.ext {w0 : World} {b : Nat} {acc : Sp.Bs} {w w' : World} (h : BW w0 b acc w) (hO : Ext w w') : BW w0 b acc w' :=
  h.only (M := fun _ => False) (Only.of_ext hO) (fun _ h => h.elim) (fun h => h) (fun _ _ _ h => h)
theorem BW.post {w0 : World} {b : Nat} {o : Option Nat} {acc' : Sp.Bs} {w w' : World} (ho : ∀ g, o = some g → w0.heap.size ≤ g) (hx : Only (· = b) w0 w) (hp : BldPost b o acc' w w') : BW w0 b acc' w' := by
  obtain ⟨o', hb', hn, hO⟩ := hp
  refine ⟨o', hb', ?_, hx.trans hO (fun k hk hm => hm.elim (fun e => e) (fun e => by have := ho k e.symm; omega))⟩
  intro g hg
  rcases hn with e | ⟨g', e, hge⟩
  · exact ho g (by rw [← e, hg])
  · rw [hg] at e; cases e
    have := hx.size
    omega
theorem bwWriteString_any {w0 : World} {b : Nat} {acc : Sp.Bs} {w : World} (s : ByteArray) (h : BW w0 b acc w) (hlen : acc.length + s.size ≤ 140737488355328) :
    Calls Tryz.prog 30 #[.pointer (some ⟨b, 0, none⟩), .string s] w fun e w' => e = .returned (.tuple #[.int .i64 s.size, .nilIface]) ∧ BW w0 b (acc ++ s.data.toList) w' := by
  obtain ⟨o, hb, ho, hx⟩ := h
  exact (writeString_any s hb hlen).mono fun e w' ⟨he, hp⟩ => ⟨he, BW.post ho hx hp⟩
theorem bwWriteByte_any {w0 : World} {b : Nat} {acc : Sp.Bs} {w : World} (c : UInt8) (h : BW w0 b acc w) (hlen : acc.length + 1 ≤ 140737488355328) :
    Calls Tryz.prog 38 #[.pointer (some ⟨b, 0, none⟩), .int .u8 c.toNat] w fun e w' => e = .returned .nilIface ∧ BW w0 b (acc ++ [c]) w' := by
  obtain ⟨o, hb, ho, hx⟩ := h
  exact (writeByte_any c hb hlen).mono fun e w' ⟨he, hp⟩ => ⟨he, BW.post ho hx hp⟩
theorem bwString_any {w0 : World} {b : Nat} {acc : Sp.Bs} {w : World} (h : BW w0 b acc w) (B : Nat) (hB : B ≤ b) (h0 : B ≤ w0.heap.size) :
    Calls Tryz.prog 33 #[.pointer (some ⟨b, 0, none⟩)] w fun e w' => e = .returned (str acc) ∧ Below B w w' ∧ Lib.OthersKept 5 (some b) w w' := by
  obtain ⟨o, hb, ho, hx⟩ := h
  exact bldString_any hb B hB (fun g hg => Nat.le_trans h0 (ho g hg))
/-- a Builder in which nothing was written, while another one was -/
theorem Bld.kept_none {w w' : World} {b b1 : Nat} (h : w.heap[b]? = some (.cells #[.pointer none, .slice none 0 0] 54 (0, 0))) (hK : Lib.OthersKept 5 (some b1) w w') (hne : b ≠ b1) : Bld b none [] w' := by
  have := hK b _ h (by simpa using hne) (by intro c fz e; cases e)
  exact ⟨_, _, .inl rfl, this, World.ownsRow_nil _ _ _ _, rfl, by simp⟩
/-- what lay below w and is not the Builder lies as it did in the world in which the loop began -/
theorem BW.named {w0 : World} {b b0 : Nat} {acc : Sp.Bs} {w : World} (h : BW w0 b acc w) (hn : Named w0 b0) (hne : b0 ≠ b) : Named w b0 := by
  obtain ⟨o, hb, ho, hx⟩ := h
  exact hn.kept (hx.block _ hn.lt hne)
theorem BW.ext0 {w0 : World} {b : Nat} {acc : Sp.Bs} {w : World} (h : BW w0 b acc w) {v : World} (hv : Ext v w0) (hb : v.heap.size ≤ b) : Ext v w := by
  obtain ⟨o, _, ho, hx⟩ := h
  exact hv.trans (hx.below hv.size (fun k hk e => by omega))

/-- body.tag -/
theorem tag_any (s : ByteArray) (w : World) (hG : G w) (hs : s.size ≤ 1000000000) :
    Calls Tryz.prog 36 #[.string s] w fun e w' => e = .returned (.tuple #[.int .i64 (Sp.tagOf s.data.toList).1, str (Sp.tagOf s.data.toList).2]) ∧ Ext w w' := by
  by_cases h2 : 2 ≤ s.size
  · obtain ⟨r, hr⟩ := tail_cons s h2
    cases ho : Sp.opens s[0] s[1] with
    | true => exact tag_yes s w hG hs h2 ho
    | false =>
      have ht : Sp.tagOf s.data.toList = (0, []) := by
        rw [hr]; simp only [Sp.tagOf]; rw [if_neg (by rw [ho]; simp)]
      rw [ht]
      exact (tag_no s w (fun _ => ho)).mono fun e w' ⟨he, hw⟩ => ⟨he, by subst hw; exact Below.refl _ _⟩
  · have ht : Sp.tagOf s.data.toList = (0, []) := by
      have hl : s.data.toList.length = s.size := by simp
      match hm : s.data.toList with
      | [] => rfl
      | [_] => rfl
      | _ :: _ :: _ => rw [hm] at hl; simp at hl; omega
    rw [ht]
    exact (tag_no s w (fun h => absurd h h2)).mono fun e w' ⟨he, hw⟩ => ⟨he, by subst hw; exact Below.refl _ _⟩

theorem Sp.tagOf_le (t : Sp.Bs) : (Sp.tagOf t).1 ≤ t.length := by
  unfold Sp.tagOf
  split
  · rename_i c0 c1 r
    split
    · split
      · rename_i hp
        have h1 := Lib.hasPrefix_le hp
        have h2 := Sp.behind_le ((c0 :: c1 :: r).drop 4) [45, 45, 62]
        simp only [List.length_drop] at h1 h2 ⊢
        simp at h1
        simp at h2 ⊢
        omega
      · simp only
        have h2 := Sp.behind_le (c0 :: c1 :: r) [62]
        split
        · have h3 := Sp.raw_le ((c0 :: c1 :: r).drop (Sp.behind (c0 :: c1 :: r) [62])) (Sp.tagName (c0 :: c1 :: r) c1)
          rw [List.length_drop] at h3
          omega
        · exact h2
    · exact Nat.zero_le _
  · exact Nat.zero_le _

/-- one step of body.Html at what is left: how much it takes, and what it gives -/
def Sp.htmlStep (t : Sp.Bs) : Option (Nat × Sp.Bs) :=
  match t with
  | [] => none
  | c :: _ =>
    if 0 < (Sp.tagOf t).1 then some ((Sp.tagOf t).1, if Sp.breaks (Sp.tagOf t).2 then [10] else [])
    else (Sp.ent t).map fun p => if 0 < p.1 then p else (1, [if Sp.isWhite c then 32 else c])
def Sp.htmlGo : Nat → Sp.Bs → Option Sp.Bs
  | 0, _ => some []
  | f + 1, t => if t = [] then some [] else (Sp.htmlStep t).bind fun p => (Sp.htmlGo f (t.drop p.1)).map (p.2 ++ ·)
def Sp.html1 (t : Sp.Bs) : Option Sp.Bs := Sp.htmlGo t.length t
/-- the second loop -/
def Sp.denseOf (l : Sp.Bs) : Sp.Bs := if Sp.squeeze l = [] then [] else Sp.squeeze l ++ [10]
def Sp.denseL (ls : List Sp.Bs) : Sp.Bs := ls.flatMap Sp.denseOf
def Sp.dense (t : Sp.Bs) : Sp.Bs := Sp.denseL (Sp.lines t)
theorem Sp.denseL_succ (ls : List Sp.Bs) (q : Nat) (l : Sp.Bs) (h : ls[q]? = some l) : Sp.denseL (ls.take (q + 1)) = Sp.denseL (ls.take q) ++ Sp.denseOf l := by
  unfold Sp.denseL
  rw [List.take_add_one, h]
  simp
theorem Sp.splitLF_len : ∀ l : Sp.Bs, ((Sp.splitLF l).map (fun p => p.1.length + 1)).sum ≤ l.length + 1
  | [] => by simp [Sp.splitLF]
  | c :: cs => by
    have ih := Sp.splitLF_len cs
    unfold Sp.splitLF
    split
    · simp only [List.map_cons, List.sum_cons, List.length_cons, List.length_nil]; omega
    · split
      · simp
      · rename_i l e r hs
        rw [hs] at ih
        simp only [List.map_cons, List.sum_cons, List.length_cons] at ih ⊢
        omega
theorem Sp.trimSuffix_len (l q : Sp.Bs) : (Lib.trimSuffix l q).length ≤ l.length := by
  unfold Lib.trimSuffix
  split
  · simp
  · exact Nat.le_refl _
theorem Sp.lines_len (l : Sp.Bs) : ((Sp.lines l).map (fun x => x.length + 1)).sum ≤ l.length + 1 := by
  refine Nat.le_trans ?_ (Sp.splitLF_len l)
  unfold Sp.lines
  generalize Sp.splitLF l = ps
  induction ps with
  | nil => exact Nat.le_refl _
  | cons p ps ih =>
    simp only [List.map_cons, List.sum_cons]
    have : (Sp.lineOf p).length ≤ p.1.length := by
      unfold Sp.lineOf
      split
      · exact Sp.trimSuffix_len _ _
      · exact Nat.le_refl _
    omega
theorem Sp.denseL_len (ls : List Sp.Bs) : (Sp.denseL ls).length ≤ 2 * (ls.map (fun x => x.length + 1)).sum := by
  unfold Sp.denseL
  induction ls with
  | nil => exact Nat.le_refl _
  | cons l ls ih =>
    simp only [List.flatMap_cons, List.length_append, List.map_cons, List.sum_cons]
    have : (Sp.denseOf l).length ≤ l.length + 2 := by
      unfold Sp.denseOf
      have := Sp.squeeze_len l
      split
      · exact Nat.zero_le _
      · simp only [List.length_append, List.length_cons, List.length_nil]; omega
    omega
theorem Sp.sum_take (ls : List Nat) (q : Nat) : (ls.take q).sum ≤ ls.sum := by
  have := List.sum_append (l₁ := ls.take q) (l₂ := ls.drop q)
  rw [List.take_append_drop] at this
  omega
theorem Sp.dense_take_len (t : Sp.Bs) (q : Nat) : (Sp.denseL ((Sp.lines t).take q)).length ≤ 2 * (t.length + 1) := by
  have h1 := Sp.denseL_len ((Sp.lines t).take q)
  have h2 := Sp.sum_take ((Sp.lines t).map (fun x => x.length + 1)) q
  have h3 := Sp.lines_len t
  rw [← List.map_take] at h2
  omega
theorem Sp.line_len (t : Sp.Bs) (q : Nat) (l : Sp.Bs) (h : (Sp.lines t)[q]? = some l) : l.length ≤ t.length := by
  have h3 := Sp.lines_len t
  have : l.length + 1 ≤ ((Sp.lines t).map (fun x => x.length + 1)).sum := by
    have hm : l ∈ Sp.lines t := List.mem_of_getElem? h
    generalize Sp.lines t = ls at hm
    clear h h3
    induction ls with
    | nil => cases hm
    | cons a ls ih =>
      simp only [List.map_cons, List.sum_cons]
      rcases List.mem_cons.1 hm with rfl | h
      · omega
      · have := ih h; omega
  omega
theorem Sp.lines_count (t : Sp.Bs) : (Sp.lines t).length ≤ t.length + 1 := by
  have h3 := Sp.lines_len t
  have : (Sp.lines t).length ≤ ((Sp.lines t).map (fun x => x.length + 1)).sum := by
    generalize Sp.lines t = ls
    clear h3
    induction ls with
    | nil => exact Nat.le_refl _
    | cons a ls ih => simp only [List.map_cons, List.sum_cons, List.length_cons]; omega
  omega

theorem Sp.htmlStep_len (t : Sp.Bs) (n : Nat) (o : Sp.Bs) (h : Sp.htmlStep t = some (n, o)) : 0 < n ∧ n ≤ t.length ∧ o.length ≤ n := by
  unfold Sp.htmlStep at h
  cases t with
  | nil => cases h
  | cons c r =>
    simp only at h
    split at h
    · rename_i h1
      cases h
      refine ⟨h1, Sp.tagOf_le _, ?_⟩
      split
      · exact h1
      · exact Nat.zero_le _
    · obtain ⟨p, hp, he⟩ := Option.map_eq_some_iff.1 h
      split at he
      · subst he
        obtain ⟨h1, h2⟩ := Sp.ent_len _ _ _ hp
        rename_i h3
        exact ⟨h3, h2, h1⟩
      · cases he
        simp
theorem Sp.htmlGo_fuel : ∀ (f : Nat) (t : Sp.Bs), t.length ≤ f → Sp.htmlGo f t = Sp.html1 t := by
  intro f
  induction f using Nat.strongRecOn with
  | _ f ih =>
    intro t ht
    match f, t, ht with
    | 0, [], _ => rfl
    | f + 1, [], _ => simp [Sp.htmlGo, Sp.html1]
    | f + 1, c :: r, ht =>
      simp only [List.length_cons] at ht
      simp only [Sp.html1, List.length_cons, Sp.htmlGo]
      cases hs : Sp.htmlStep (c :: r) with
      | none => rfl
      | some p =>
        have hl := (Sp.htmlStep_len _ _ _ hs)
        have hd : ((c :: r).drop p.1).length ≤ r.length := by rw [List.length_drop, List.length_cons]; omega
        simp only [Option.bind_some]
        rw [ih f (by omega) _ (by omega), ih r.length (by omega) _ hd]
theorem Sp.html1_step (t : Sp.Bs) (ht : t ≠ []) : Sp.html1 t = (Sp.htmlStep t).bind fun p => (Sp.html1 (t.drop p.1)).map (p.2 ++ ·) := by
  cases t with
  | nil => exact absurd rfl ht
  | cons c r =>
    conv => lhs; unfold Sp.html1
    simp only [List.length_cons, Sp.htmlGo]
    rw [if_neg (by simp)]
    cases hs : Sp.htmlStep (c :: r) with
    | none => rfl
    | some p =>
      have hl := (Sp.htmlStep_len _ _ _ hs)
      simp only [Option.bind_some]
      rw [Sp.htmlGo_fuel _ _ (by rw [List.length_drop, List.length_cons]; omega)]

end Go.Proofs.YtjbllanlfgbpkaaGreatDoor
