/- The plain law of BodyEscapes. -/
import Derived.Test.YtjbllanlfgbpkaaGreatDoorHtml3
namespace Go.Proofs.YtjbllanlfgbpkaaGreatDoor
open Go.RowKit

/-! ### where a mark begins -/
theorem Sp.index_mark (a r ms : Sp.Bs) (m : UInt8) (h : m ∉ a) : Lib.index (a ++ (m :: ms) ++ r) (m :: ms) = a.length := by
  refine Lib.index_first (by simp) ?_ ?_
  · unfold Lib.occAt
    rw [List.append_assoc, List.drop_left]
    simp
  · intro j hj
    unfold Lib.occAt
    rw [List.append_assoc, List.drop_append_of_le_length (by omega)]
    have hc : a.drop j = a[j] :: a.drop (j + 1) := List.drop_eq_getElem_cons hj
    rw [hc, List.cons_append]
    have hne : (m == a[j]) = false := by
      rw [beq_eq_false_iff_ne]
      intro e
      exact h (e ▸ List.getElem_mem hj)
    simp only [List.isPrefixOf]
    rw [hne]
    rfl
theorem Sp.behind_at (a r ms : Sp.Bs) (m : UInt8) (h : m ∉ a) : Sp.behind (a ++ (m :: ms) ++ r) (m :: ms) = a.length + (ms.length + 1) := by
  unfold Sp.behind
  rw [Sp.index_mark a r ms m h, if_pos (by omega)]
  simp

/-! ### one byte, escaped -/
def Sp.escOf (c : UInt8) : Sp.Bs := if c == 38 then [38, 97, 109, 112, 59] else if c == 60 then [38, 108, 116, 59] else if c == 62 then [38, 103, 116, 59] else if c == 10 then [60, 98, 114, 47, 62] else [c]
def Sp.esc (l : Sp.Bs) : Sp.Bs := l.flatMap Sp.escOf
/-- what body.Html makes of a byte -/
def Sp.blank (c : UInt8) : UInt8 := if c == 10 then 10 else if Sp.isWhite c then 32 else c

theorem Sp.tagOf_no (c : UInt8) (r : Sp.Bs) (h : (c == 60) = false) : Sp.tagOf (c :: r) = (0, []) := by
  unfold Sp.tagOf
  split
  · rename_i c0 c1 r' e
    cases e
    unfold Sp.opens
    rw [h]
    rfl
  · rfl
theorem Sp.htmlStep_plain (c : UInt8) (r : Sp.Bs) (h1 : (c == 60) = false) (h2 : (c == 38) = false) : Sp.htmlStep (c :: r) = some (1, [if Sp.isWhite c then 32 else c]) := by
  unfold Sp.htmlStep
  simp only [Sp.tagOf_no c r h1]
  have he : Sp.ent (c :: r) = some (0, []) := by
    unfold Sp.ent
    rw [if_neg]
    simp only [List.head?_cons]
    intro e
    cases e
    simp at h2
  simp [he]
theorem Sp.htmlStep_esc (c : UInt8) (r : Sp.Bs) : Sp.htmlStep (Sp.escOf c ++ r) = some ((Sp.escOf c).length, [Sp.blank c]) := by
  unfold Sp.escOf
  split
  · rename_i h; rw [beq_iff_eq] at h; subst h
    simp [Sp.htmlStep, Sp.tagOf, Sp.opens, Sp.ent, Lib.indexByte, Sp.named, Sp.blank, Sp.isWhite]
  · split
    · rename_i h; rw [beq_iff_eq] at h; subst h
      simp [Sp.htmlStep, Sp.tagOf, Sp.opens, Sp.ent, Lib.indexByte, Sp.named, Sp.blank, Sp.isWhite]
    · split
      · rename_i h; rw [beq_iff_eq] at h; subst h
        simp [Sp.htmlStep, Sp.tagOf, Sp.opens, Sp.ent, Lib.indexByte, Sp.named, Sp.blank, Sp.isWhite]
      · split
        · rename_i h; rw [beq_iff_eq] at h; subst h
          have hb : Sp.behind ([60, 98, 114, 47, 62] ++ r) [62] = 5 := Sp.behind_at [60, 98, 114, 47] r [] 62 (by decide)
          simp only [List.cons_append, List.nil_append] at hb
          have ht : Sp.tagOf (60 :: 98 :: 114 :: 47 :: 62 :: r) = (5, [98, 114]) := by
            have hn : Sp.tagName (60 :: 98 :: 114 :: 47 :: 62 :: r) 98 = [98, 114] := by
              simp [Sp.tagName, Sp.nameAt, Sp.alnum, Sp.letter, Sp.digit, Sp.lowerL, Sp.lower, List.takeWhile]
            unfold Sp.tagOf
            simp only [hn, hb]
            simp [Sp.opens, Sp.letter, Lib.hasPrefix, Sp.rawName, Sp.nameAt, Sp.scriptS, Sp.styleS]
          show Sp.htmlStep (60 :: 98 :: 114 :: 47 :: 62 :: r) = _
          unfold Sp.htmlStep
          simp only [ht]
          rfl
        · rename_i h1 h2 h3 h4
          rw [Bool.not_eq_true] at h1 h2 h4
          show Sp.htmlStep (c :: r) = _
          rw [Sp.htmlStep_plain c r h2 h1]
          simp [Sp.blank, h4]

theorem Sp.html1_nil : Sp.html1 [] = some [] := rfl
theorem Sp.html1_of_step (t o : Sp.Bs) (n : Nat) (ht : t ≠ []) (h : Sp.htmlStep t = some (n, o)) : Sp.html1 t = (Sp.html1 (t.drop n)).map (o ++ ·) := by
  rw [Sp.html1_step t ht, h]
  rfl
theorem Sp.escOf_ne (c : UInt8) : Sp.escOf c ≠ [] := by
  unfold Sp.escOf
  repeat' split
  all_goals simp
theorem Sp.html1_esc_append (r : Sp.Bs) : ∀ s : Sp.Bs, Sp.html1 (Sp.esc s ++ r) = (Sp.html1 r).map (s.map Sp.blank ++ ·)
  | [] => by
    show Sp.html1 r = _
    cases Sp.html1 r <;> rfl
  | c :: s => by
    have e : Sp.esc (c :: s) ++ r = Sp.escOf c ++ (Sp.esc s ++ r) := by simp [Sp.esc]
    rw [e, Sp.html1_of_step _ _ _ (by intro h; exact Sp.escOf_ne c (List.append_eq_nil_iff.1 h).1) (Sp.htmlStep_esc c _), List.drop_left, Sp.html1_esc_append r s]
    cases Sp.html1 r <;> rfl
theorem Sp.html1_esc (s : Sp.Bs) : Sp.html1 (Sp.esc s) = some (s.map Sp.blank) := by
  have := Sp.html1_esc_append [] s
  rwa [List.append_nil, Sp.html1_nil, Option.map_some, List.append_nil] at this

/-! ### squeezing what body.Html made -/
/-- a white byte for a white byte -/
def Sp.Blanks (f : UInt8 → UInt8) : Prop := ∀ c, (Sp.isWhite c = true → Sp.isWhite (f c) = true) ∧ (Sp.isWhite c = false → f c = c)
theorem Sp.words_blanks {f : UInt8 → UInt8} (hf : Sp.Blanks f) : ∀ l : Sp.Bs, Sp.words (l.map f) = Sp.words l
  | [] => rfl
  | c :: cs => by
    have ih := Sp.words_blanks hf cs
    cases hc : Sp.isWhite c with
    | true => rw [List.map_cons, Sp.words_white ((hf c).1 hc), Sp.words_white hc, ih]
    | false =>
      have hfc := (hf c).2 hc
      rw [List.map_cons, hfc]
      cases cs with
      | nil => rfl
      | cons d r =>
        rw [List.map_cons] at ih ⊢
        rw [Sp.words.eq_def, Sp.words.eq_def]
        simp only [hc, Bool.false_eq_true, if_false]
        cases hd : Sp.isWhite d with
        | true => rw [(hf d).1 hd, ih]
        | false => rw [(hf d).2 hd] at ih ⊢; rw [ih, hd]
theorem Sp.squeeze_blanks {f : UInt8 → UInt8} (hf : Sp.Blanks f) (l : Sp.Bs) : Sp.squeeze (l.map f) = Sp.squeeze l := by
  unfold Sp.squeeze
  rw [Sp.words_blanks hf]
theorem Sp.blank_blanks : Sp.Blanks Sp.blank := by
  intro c
  unfold Sp.blank
  constructor
  · intro h
    split
    · rfl
    · decide
  · intro h
    rw [if_neg (by intro e; rw [beq_iff_eq] at e; subst e; exact absurd h (by decide)), if_neg (by rw [h]; decide)]
theorem Sp.words_snoc_white : ∀ (l : Sp.Bs) (c : UInt8), Sp.isWhite c = true → Sp.words (l ++ [c]) = Sp.words l
  | [], c, h => by rw [List.nil_append, Sp.words_white h]
  | [d], c, h => by
    cases hd : Sp.isWhite d with
    | true => rw [List.singleton_append, Sp.words_white hd, Sp.words_white hd, Sp.words_white h]
    | false =>
      rw [List.singleton_append, Sp.words.eq_def]
      simp only [hd, h]
      rw [Sp.words_white h]
      simp [Sp.words, hd]
  | d :: e :: l, c, h => by
    have ih := Sp.words_snoc_white (e :: l) c h
    cases hd : Sp.isWhite d with
    | true => rw [List.cons_append, Sp.words_white hd, Sp.words_white hd, ih]
    | false =>
      rw [List.cons_append] at ih
      rw [List.cons_append, List.cons_append, Sp.words.eq_def, Sp.words.eq_def (d :: e :: l)]
      simp only [hd, Bool.false_eq_true, if_false]
      rw [ih]
theorem Sp.squeeze_lineOf (p : Sp.Bs × Bool) : Sp.squeeze (Sp.lineOf p) = Sp.squeeze p.1 := by
  unfold Sp.lineOf
  split
  · unfold Lib.trimSuffix
    split
    · rename_i h
      have hs : ∃ a, p.1 = a ++ [13] := by
        simp only [Lib.hasSuffix] at h
        obtain ⟨a, ha⟩ := List.isSuffixOf_iff_suffix.1 h
        exact ⟨a, ha.symm⟩
      obtain ⟨a, ha⟩ := hs
      rw [ha]
      have : (a ++ [13] : Sp.Bs).take ((a ++ [13] : Sp.Bs).length - ([13] : Sp.Bs).length) = a := by simp
      rw [this]
      unfold Sp.squeeze
      rw [Sp.words_snoc_white a 13 (by decide)]
    · rfl
  · rfl
/-- dense, by the raw lines -/
theorem Sp.dense_eq (t : Sp.Bs) : Sp.dense t = ((Sp.splitLF t).map Prod.fst).flatMap Sp.denseOf := by
  unfold Sp.dense Sp.denseL Sp.lines
  generalize Sp.splitLF t = ps
  induction ps with
  | nil => rfl
  | cons p ps ih =>
    simp only [List.map_cons, List.flatMap_cons]
    rw [ih]
    congr 1
    unfold Sp.denseOf
    rw [Sp.squeeze_lineOf]
theorem Sp.splitLF_map {f : UInt8 → UInt8} (h10 : f 10 = 10) (hne : ∀ c, (c == 10) = false → (f c == 10) = false) : ∀ l : Sp.Bs, Sp.splitLF (l.map f) = (Sp.splitLF l).map fun p => (p.1.map f, p.2)
  | [] => rfl
  | c :: cs => by
    have ih := Sp.splitLF_map h10 hne cs
    rw [List.map_cons]
    unfold Sp.splitLF
    cases hc : (c == 10) with
    | true =>
      rw [beq_iff_eq] at hc; subst hc
      rw [h10]
      simp [ih]
    | false =>
      rw [hne c hc]
      simp only [Bool.false_eq_true, if_false]
      rw [ih]
      cases Sp.splitLF cs with
      | nil => rfl
      | cons p ps => rfl
theorem Sp.dense_blank (s : Sp.Bs) : Sp.dense (s.map Sp.blank) = Sp.dense s := by
  rw [Sp.dense_eq, Sp.dense_eq, Sp.splitLF_map rfl (fun c hc => by
    unfold Sp.blank
    rw [hc]
    simp only [Bool.false_eq_true, if_false]
    split
    · rfl
    · exact hc)]
  generalize Sp.splitLF s = ps
  induction ps with
  | nil => rfl
  | cons p ps ih =>
    simp only [List.map_cons, List.flatMap_cons]
    rw [ih]
    congr 1
    unfold Sp.denseOf
    rw [Sp.squeeze_blanks Sp.blank_blanks]
/-- THE FIRST HALF: the escaped text. -/
theorem Sp.html_esc (s : Sp.Bs) : ∃ out, Sp.html1 (Sp.esc s) = some out ∧ Sp.dense out = Sp.denseL (Sp.lines s) :=
  ⟨_, Sp.html1_esc s, by rw [Sp.dense_blank]; rfl⟩

/-! ### the second half -/
/-- <i>, </i><!--, -->, <Script>, </SCRIPT ><HR> -/
def Sp.m0 : Sp.Bs := [60, 105, 62]
def Sp.m1 : Sp.Bs := [60, 47, 105, 62, 60, 33, 45, 45]
def Sp.m2 : Sp.Bs := [45, 45, 62, 60, 83, 99, 114, 105, 112, 116, 62]
def Sp.m3 : Sp.Bs := [60, 47, 83, 67, 82, 73, 80, 84, 32, 62, 60, 72, 82, 62]
def Sp.moreOf (x l : Sp.Bs) : Sp.Bs := Sp.m0 ++ Sp.esc l ++ Sp.m1 ++ x ++ Sp.m2 ++ x ++ Sp.m3
def Sp.moreL (x : Sp.Bs) (ls : List Sp.Bs) : Sp.Bs := ls.flatMap (Sp.moreOf x)
def Sp.mute (x : Sp.Bs) : Prop := 60 ∉ x ∧ 62 ∉ x ∧ 45 ∉ x

theorem Sp.step_i (r : Sp.Bs) : Sp.html1 (Sp.m0 ++ r) = Sp.html1 r := by
  have hb : Sp.behind ([60, 105, 62] ++ r) [62] = 3 := Sp.behind_at [60, 105] r [] 62 (by decide)
  simp only [List.cons_append, List.nil_append] at hb
  have ht : Sp.tagOf (60 :: 105 :: 62 :: r) = (3, [105]) := by
    have hn : Sp.tagName (60 :: 105 :: 62 :: r) 105 = [105] := by
      simp [Sp.tagName, Sp.nameAt, Sp.alnum, Sp.letter, Sp.digit, Sp.lowerL, Sp.lower, List.takeWhile]
    unfold Sp.tagOf
    simp only [hn, hb]
    simp [Sp.opens, Sp.letter, Lib.hasPrefix, Sp.rawName, Sp.nameAt, Sp.scriptS, Sp.styleS]
  have hs : Sp.htmlStep (Sp.m0 ++ r) = some (3, []) := by
    show Sp.htmlStep (60 :: 105 :: 62 :: r) = _
    unfold Sp.htmlStep
    simp only [ht]
    rfl
  rw [Sp.html1_of_step _ _ _ (by simp [Sp.m0]) hs]
  simp [Sp.m0]
theorem Sp.step_ni (r : Sp.Bs) : Sp.html1 (60 :: 47 :: 105 :: 62 :: r) = Sp.html1 r := by
  have hb : Sp.behind ([60, 47, 105, 62] ++ r) [62] = 4 := Sp.behind_at [60, 47, 105] r [] 62 (by decide)
  simp only [List.cons_append, List.nil_append] at hb
  have ht : Sp.tagOf (60 :: 47 :: 105 :: 62 :: r) = (4, [105]) := by
    have hn : Sp.tagName (60 :: 47 :: 105 :: 62 :: r) 47 = [105] := by
      simp [Sp.tagName, Sp.nameAt, Sp.alnum, Sp.letter, Sp.digit, Sp.lowerL, Sp.lower, List.takeWhile]
    unfold Sp.tagOf
    simp only [hn, hb]
    simp [Sp.opens, Sp.letter, Lib.hasPrefix, Sp.rawName, Sp.nameAt, Sp.scriptS, Sp.styleS]
  have hs : Sp.htmlStep (60 :: 47 :: 105 :: 62 :: r) = some (4, []) := by
    unfold Sp.htmlStep
    simp only [ht]
    rfl
  rw [Sp.html1_of_step _ _ _ (by simp) hs]
  simp
theorem Sp.step_comment (x r : Sp.Bs) (hx : 45 ∉ x) : Sp.html1 (60 :: 33 :: 45 :: 45 :: (x ++ ([45, 45, 62] ++ r))) = Sp.html1 r := by
  have hb : Sp.behind (x ++ [45, 45, 62] ++ r) [45, 45, 62] = x.length + 3 := Sp.behind_at x r [45, 62] 45 hx
  rw [List.append_assoc] at hb
  have ht : Sp.tagOf (60 :: 33 :: 45 :: 45 :: (x ++ ([45, 45, 62] ++ r))) = (4 + (x.length + 3), []) := by
    unfold Sp.tagOf
    simp only [List.drop_succ_cons, List.drop_zero, hb]
    simp [Sp.opens, Sp.letter, Lib.hasPrefix]
  have hs : Sp.htmlStep (60 :: 33 :: 45 :: 45 :: (x ++ ([45, 45, 62] ++ r))) = some (4 + (x.length + 3), []) := by
    unfold Sp.htmlStep
    simp only [ht]
    rw [if_pos (by omega)]
    rfl
  rw [Sp.html1_of_step _ _ _ (by simp) hs]
  have : (60 :: 33 :: 45 :: 45 :: (x ++ ([45, 45, 62] ++ r)) : Sp.Bs).drop (4 + (x.length + 3)) = r := by
    have e : (60 :: 33 :: 45 :: 45 :: (x ++ ([45, 45, 62] ++ r)) : Sp.Bs) = (60 :: 33 :: 45 :: 45 :: (x ++ [45, 45, 62])) ++ r := by simp
    rw [e, show 4 + (x.length + 3) = (60 :: 33 :: 45 :: 45 :: (x ++ [45, 45, 62]) : Sp.Bs).length by simp; omega, List.drop_left]
  rw [this]
  cases Sp.html1 r <;> rfl
theorem Sp.step_script (x r : Sp.Bs) (hx : 60 ∉ x) : Sp.html1 (60 :: 83 :: 99 :: 114 :: 105 :: 112 :: 116 :: 62 :: (x ++ ([60, 47, 83, 67, 82, 73, 80, 84, 32, 62] ++ r))) = Sp.html1 r := by
  have hb : ∀ q : Sp.Bs, Sp.behind ([60, 83, 99, 114, 105, 112, 116, 62] ++ q) [62] = 8 := fun q => Sp.behind_at [60, 83, 99, 114, 105, 112, 116] q [] 62 (by decide)
  have hb2 : ∀ q : Sp.Bs, Sp.behind (x ++ ([60, 47] ++ q)) [60, 47] = x.length + 2 := fun q => by
    have := Sp.behind_at x q [47] 60 hx
    rwa [List.append_assoc] at this
  have hb3 : Sp.behind ([32, 62] ++ r) [62] = 2 := Sp.behind_at [32] r [] 62 (by decide)
  simp only [List.cons_append, List.nil_append] at hb hb2 hb3
  have hraw : Sp.raw (x ++ (60 :: 47 :: 83 :: 67 :: 82 :: 73 :: 80 :: 84 :: 32 :: 62 :: r)) [115, 99, 114, 105, 112, 116] = x.length + 10 := by
    have := Sp.rawL_step (x ++ (60 :: 47 :: 83 :: 67 :: 82 :: 73 :: 80 :: 84 :: 32 :: 62 :: r)) [115, 99, 114, 105, 112, 116] (by simp)
    show Sp.rawL _ _ = _
    rw [this, hb2]
    have hd : (x ++ (60 :: 47 :: 83 :: 67 :: 82 :: 73 :: 80 :: 84 :: 32 :: 62 :: r) : Sp.Bs).drop (x.length + 2) = 83 :: 67 :: 82 :: 73 :: 80 :: 84 :: 32 :: 62 :: r := by
      rw [← List.drop_drop, List.drop_left]
      rfl
    rw [hd]
    simp only [List.length_cons, List.length_nil, List.take_succ_cons, List.take_zero, List.drop_succ_cons, List.drop_zero, hb3]
    rw [if_pos (by simp [Sp.same, Sp.lowerL, Sp.lower])]
  have ht : Sp.tagOf (60 :: 83 :: 99 :: 114 :: 105 :: 112 :: 116 :: 62 :: (x ++ (60 :: 47 :: 83 :: 67 :: 82 :: 73 :: 80 :: 84 :: 32 :: 62 :: r))) = (8 + (x.length + 10), [115, 99, 114, 105, 112, 116]) := by
    have hn : Sp.tagName (60 :: 83 :: 99 :: 114 :: 105 :: 112 :: 116 :: 62 :: (x ++ (60 :: 47 :: 83 :: 67 :: 82 :: 73 :: 80 :: 84 :: 32 :: 62 :: r))) 83 = [115, 99, 114, 105, 112, 116] := by
      simp [Sp.tagName, Sp.nameAt, Sp.alnum, Sp.letter, Sp.digit, Sp.lowerL, Sp.lower, List.takeWhile]
    unfold Sp.tagOf
    simp only [hn, hb, List.drop_succ_cons, List.drop_zero, hraw]
    simp [Sp.opens, Sp.letter, Lib.hasPrefix, Sp.rawName, Sp.nameAt, Sp.scriptS, Sp.styleS]
  simp only [List.cons_append, List.nil_append]
  have hs : Sp.htmlStep (60 :: 83 :: 99 :: 114 :: 105 :: 112 :: 116 :: 62 :: (x ++ (60 :: 47 :: 83 :: 67 :: 82 :: 73 :: 80 :: 84 :: 32 :: 62 :: r))) = some (8 + (x.length + 10), []) := by
    unfold Sp.htmlStep
    simp only [ht]
    rw [if_pos (by omega), if_neg (by decide)]
  rw [Sp.html1_of_step _ _ _ (by simp) hs]
  have : (60 :: 83 :: 99 :: 114 :: 105 :: 112 :: 116 :: 62 :: (x ++ (60 :: 47 :: 83 :: 67 :: 82 :: 73 :: 80 :: 84 :: 32 :: 62 :: r)) : Sp.Bs).drop (8 + (x.length + 10)) = r := by
    have e : (60 :: 83 :: 99 :: 114 :: 105 :: 112 :: 116 :: 62 :: (x ++ (60 :: 47 :: 83 :: 67 :: 82 :: 73 :: 80 :: 84 :: 32 :: 62 :: r)) : Sp.Bs) = (60 :: 83 :: 99 :: 114 :: 105 :: 112 :: 116 :: 62 :: (x ++ [60, 47, 83, 67, 82, 73, 80, 84, 32, 62])) ++ r := by simp
    rw [e, show 8 + (x.length + 10) = (60 :: 83 :: 99 :: 114 :: 105 :: 112 :: 116 :: 62 :: (x ++ [60, 47, 83, 67, 82, 73, 80, 84, 32, 62]) : Sp.Bs).length by simp; omega, List.drop_left]
  rw [this]
  cases Sp.html1 r <;> rfl
theorem Sp.step_hr (r : Sp.Bs) : Sp.html1 (60 :: 72 :: 82 :: 62 :: r) = (Sp.html1 r).map ([10] ++ ·) := by
  have hb : Sp.behind ([60, 72, 82, 62] ++ r) [62] = 4 := Sp.behind_at [60, 72, 82] r [] 62 (by decide)
  simp only [List.cons_append, List.nil_append] at hb
  have ht : Sp.tagOf (60 :: 72 :: 82 :: 62 :: r) = (4, [104, 114]) := by
    have hn : Sp.tagName (60 :: 72 :: 82 :: 62 :: r) 72 = [104, 114] := by
      simp [Sp.tagName, Sp.nameAt, Sp.alnum, Sp.letter, Sp.digit, Sp.lowerL, Sp.lower, List.takeWhile]
    unfold Sp.tagOf
    simp only [hn, hb]
    simp [Sp.opens, Sp.letter, Lib.hasPrefix, Sp.rawName, Sp.nameAt, Sp.scriptS, Sp.styleS]
  have hs : Sp.htmlStep (60 :: 72 :: 82 :: 62 :: r) = some (4, [10]) := by
    unfold Sp.htmlStep
    simp only [ht]
    rfl
  rw [Sp.html1_of_step _ _ _ (by simp) hs]
  simp
theorem Sp.html1_more (x l r : Sp.Bs) (hx : Sp.mute x) : Sp.html1 (Sp.moreOf x l ++ r) = (Sp.html1 r).map ((l.map Sp.blank ++ [10]) ++ ·) := by
  obtain ⟨h1, h2, h3⟩ := hx
  have e : Sp.moreOf x l ++ r = Sp.m0 ++ (Sp.esc l ++ (60 :: 47 :: 105 :: 62 :: (60 :: 33 :: 45 :: 45 :: (x ++ ([45, 45, 62] ++ (60 :: 83 :: 99 :: 114 :: 105 :: 112 :: 116 :: 62 :: (x ++ ([60, 47, 83, 67, 82, 73, 80, 84, 32, 62] ++ (60 :: 72 :: 82 :: 62 :: r))))))))) := by
    simp [Sp.moreOf, Sp.m0, Sp.m1, Sp.m2, Sp.m3]
  rw [e, Sp.step_i, Sp.html1_esc_append, Sp.step_ni, Sp.step_comment x _ h3, Sp.step_script x _ h1, Sp.step_hr]
  cases Sp.html1 r <;> simp
theorem Sp.html1_moreL (x : Sp.Bs) (hx : Sp.mute x) : ∀ ls : List Sp.Bs, Sp.html1 (Sp.moreL x ls) = some (ls.flatMap fun l => l.map Sp.blank ++ [10])
  | [] => rfl
  | l :: ls => by
    have e : Sp.moreL x (l :: ls) = Sp.moreOf x l ++ Sp.moreL x ls := by simp [Sp.moreL]
    rw [e, Sp.html1_more x l _ hx, Sp.html1_moreL x hx ls]
    simp
theorem Sp.splitLF_line : ∀ (l r : Sp.Bs), 10 ∉ l → Sp.splitLF (l ++ 10 :: r) = (l, true) :: Sp.splitLF r
  | [], r, _ => by rw [List.nil_append, Sp.splitLF]; simp
  | c :: l, r, h => by
    have ih := Sp.splitLF_line l r (fun hm => h (by simp [hm]))
    have hc : (c == 10) = false := by
      rw [beq_eq_false_iff_ne]
      intro e; subst e; exact h (by simp)
    rw [List.cons_append, Sp.splitLF, ih]
    simp [hc]
theorem Sp.dense_lines : ∀ ls : List Sp.Bs, (∀ l ∈ ls, 10 ∉ l) → Sp.dense (ls.flatMap fun l => l ++ [10]) = Sp.denseL ls
  | [], _ => rfl
  | l :: ls, h => by
    have ih := Sp.dense_lines ls (fun x hx => h x (by simp [hx]))
    rw [Sp.dense_eq] at ih ⊢
    rw [List.flatMap_cons, List.append_assoc, List.singleton_append, Sp.splitLF_line l _ (h l (by simp)), List.map_cons, List.flatMap_cons, ih]
    simp [Sp.denseL]
theorem Sp.lineOf_no (p : Sp.Bs × Bool) (h : 10 ∉ p.1) : 10 ∉ Sp.lineOf p := by
  unfold Sp.lineOf
  split
  · unfold Lib.trimSuffix
    split
    · exact fun hm => h (List.mem_of_mem_take hm)
    · exact h
  · exact h
theorem Sp.splitLF_no : ∀ s : Sp.Bs, ∀ p ∈ Sp.splitLF s, 10 ∉ p.1
  | [] => by rw [Sp.splitLF]; intro p hp; cases hp
  | c :: cs => by
    have ih := Sp.splitLF_no cs
    rw [Sp.splitLF]
    split
    · intro p hp
      rcases List.mem_cons.1 hp with rfl | hp
      · simp
      · exact ih p hp
    · rename_i hc
      have hne : ¬ (10 : UInt8) = c := fun e => hc (by rw [← e]; rfl)
      split
      · intro p hp
        rw [List.mem_singleton] at hp
        subst hp
        simpa using hne
      · rename_i l e r hs
        rw [hs] at ih
        intro p hp
        rcases List.mem_cons.1 hp with rfl | hp
        · have := ih (l, e) (by simp)
          simpa [hne] using this
        · exact ih p (by simp [hp])
theorem Sp.lines_no (s : Sp.Bs) : ∀ l ∈ Sp.lines s, 10 ∉ l := by
  intro l hl
  unfold Sp.lines at hl
  obtain ⟨p, hp, rfl⟩ := List.mem_map.1 hl
  exact Sp.lineOf_no p (Sp.splitLF_no s p hp)
/-- THE SECOND HALF. -/
theorem Sp.html_more (x s : Sp.Bs) (hx : Sp.mute x) : ∃ out, Sp.html1 (Sp.moreL x (Sp.lines s)) = some out ∧ Sp.dense out = Sp.denseL (Sp.lines s) := by
  refine ⟨_, Sp.html1_moreL x hx _, ?_⟩
  have hno := Sp.lines_no s
  generalize Sp.lines s = ls at *
  have hb : ∀ l : Sp.Bs, 10 ∉ l → 10 ∉ l.map Sp.blank := by
    intro l h hm
    obtain ⟨c, hc, he⟩ := List.mem_map.1 hm
    unfold Sp.blank at he
    split at he
    · rename_i h10; rw [beq_iff_eq] at h10; subst h10; exact h hc
    · split at he
      · cases he
      · subst he; exact h hc
  have e : (ls.flatMap fun l => l.map Sp.blank ++ [10]) = ((ls.map (List.map Sp.blank)).flatMap fun l => l ++ [10]) := by
    rw [List.flatMap_map]
  rw [e, Sp.dense_lines _ (fun l hl => by
    obtain ⟨l', hl', rfl⟩ := List.mem_map.1 hl
    exact hb l' (hno l' hl'))]
  unfold Sp.denseL
  rw [List.flatMap_map]
  congr 1
  funext l
  unfold Sp.denseOf
  rw [Sp.squeeze_blanks Sp.blank_blanks]

end Go.Proofs.YtjbllanlfgbpkaaGreatDoor
