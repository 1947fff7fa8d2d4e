/- Plain functions on lists of bytes: what the program's packages compute. No program in sight. -/
import Derived.Lib.Strings
import Derived.Lib.IndexMore
namespace Go.Proofs.YtjbllanlfgbpkaaGreatDoor.Sp

abbrev Bs := List UInt8

/-- A fact about a byte, by all 256 of them. -/
theorem byte_all (p : UInt8 → Bool) (h : (List.range 256).all (fun n => p (UInt8.ofNat n)) = true) (c : UInt8) : p c = true := by
  have := List.all_eq_true.1 h c.toNat (List.mem_range.2 c.toNat_lt)
  simpa using this

/-- text.white -/
def isWhite (c : UInt8) : Bool := c == 9 || c == 10 || c == 13 || c == 32
/-- text.lower -/
def lower (c : UInt8) : UInt8 := if 65 ≤ c && c ≤ 90 then c + 32 else c
/-- text.Lower -/
def lowerL (l : Bs) : Bs := l.map lower
/-- text.Same -/
def same (a b : Bs) : Bool := lowerL a == lowerL b
/-- text.Trim: white bytes off both ends -/
def trim (l : Bs) : Bs := ((l.dropWhile isWhite).reverse.dropWhile isWhite).reverse
/-- words of a string -/
def words : Bs → List Bs
  | [] => []
  | c :: cs =>
    if isWhite c then words cs
    else match cs with
      | [] => [[c]]
      | d :: _ => if isWhite d then [c] :: words cs else
        match words cs with
        | [] => [[c]]
        | w :: ws => (c :: w) :: ws
theorem words_white {c : UInt8} {cs : Bs} (h : isWhite c = true) : words (c :: cs) = words cs := by
  cases cs <;> simp [words, h]
theorem words_span : ∀ (pre rest : Bs), pre ≠ [] → (∀ c ∈ pre, isWhite c = false) → (∀ d r, rest = d :: r → isWhite d = true) → words (pre ++ rest) = pre :: words rest
  | [], _, h, _, _ => absurd rfl h
  | [c], [], _, hp, _ => by simp [words, hp c (by simp)]
  | [c], d :: r, _, hp, hr => by
    have hd := hr d r rfl
    have hc := hp c (by simp)
    simp [words, hc, hd]
  | c :: c2 :: cs, rest, _, hp, hr => by
    have ih := words_span (c2 :: cs) rest (by simp) (fun x hx => hp x (by simp [hx])) hr
    have hc := hp c (by simp)
    have hc2 := hp c2 (by simp)
    simp only [List.cons_append] at ih ⊢
    rw [words]
    simp only [hc, hc2, Bool.false_eq_true, if_false]
    rw [ih]
/-- one word more -/
def sqStep (acc w : Bs) : Bs := if acc.length = 0 then w else acc ++ [32] ++ w
def sqAll (ws : List Bs) : Bs := ws.foldl sqStep []
/-- text.Squeeze -/
def squeeze (l : Bs) : Bs := sqAll (words l)

theorem words_len' : ∀ l : Bs, ((words l).map (fun w => w.length + 1)).sum ≤ l.length + 1 ∧ (∀ c cs, l = c :: cs → isWhite c = true → ((words l).map (fun w => w.length + 1)).sum ≤ l.length)
  | [] => ⟨by simp [words], fun _ _ h => by cases h⟩
  | c :: cs => by
    have ih := words_len' cs
    cases hc : isWhite c with
    | true =>
      rw [words_white hc]
      simp only [List.length_cons]
      exact ⟨by omega, fun _ _ _ _ => ih.1⟩
    | false =>
      refine ⟨?_, fun _ _ h hw => by cases h; rw [hc] at hw; cases hw⟩
      match cs, ih with
      | [], _ => simp [words, hc]
      | d :: r, ih =>
        cases hd : isWhite d with
        | true =>
          have := ih.2 d r rfl hd
          have e : words (c :: d :: r) = [c] :: words (d :: r) := by rw [words.eq_def]; simp [hc, hd]
          rw [e]
          simp at this ⊢
          omega
        | false =>
          have e : words (c :: d :: r) = (match words (d :: r) with | [] => [[c]] | w :: ws => (c :: w) :: ws) := by rw [words.eq_def]; simp [hc, hd]
          rw [e]
          have := ih.1
          split
          · simp
          · rename_i w ws hw
            rw [hw] at this
            simp at this ⊢
            omega
theorem words_len (l : Bs) : ((words l).map (fun w => w.length + 1)).sum ≤ l.length + 1 := (words_len' l).1

theorem sqStep_len (acc w : Bs) : (sqStep acc w).length ≤ acc.length + (w.length + 1) := by
  unfold sqStep
  split
  · omega
  · simp only [List.length_append, List.length_cons, List.length_nil]; omega
theorem sqAll_len_from (ws : List Bs) : ∀ acc : Bs, (ws.foldl sqStep acc).length ≤ acc.length + (ws.map (fun w => w.length + 1)).sum := by
  induction ws with
  | nil => intro acc; simp
  | cons w ws ih =>
    intro acc
    have h1 := ih (sqStep acc w)
    have h2 := sqStep_len acc w
    simp only [List.foldl_cons, List.map_cons, List.sum_cons]
    omega
theorem sqAll_take_len (l : Bs) (k : Nat) : (sqAll ((words l).take k)).length ≤ l.length + 1 := by
  have h1 := sqAll_len_from ((words l).take k) []
  have h2 : (((words l).take k).map (fun w => w.length + 1)).sum ≤ ((words l).map (fun w => w.length + 1)).sum := by
    have e : ((words l).map (fun w => w.length + 1)).sum = (((words l).take k).map (fun w => w.length + 1)).sum + (((words l).drop k).map (fun w => w.length + 1)).sum := by
      rw [← List.sum_append, ← List.map_append, List.take_append_drop]
    omega
  have h3 := words_len l
  unfold sqAll
  have h4 : ([] : Bs).length = 0 := rfl
  omega
theorem squeeze_len (l : Bs) : (squeeze l).length ≤ l.length + 1 := by
  have := sqAll_take_len l (words l).length
  rwa [List.take_length] at this
theorem sqAll_succ (ws : List Bs) (k : Nat) (w : Bs) (h : ws[k]? = some w) : sqAll (ws.take (k + 1)) = sqStep (sqAll (ws.take k)) w := by
  unfold sqAll
  rw [List.take_add_one, h]
  simp

/-- strings.Cut at one byte, by the first byte -/
theorem cut_cons (c d : UInt8) (cs : Bs) : Lib.cut (c :: cs) [d] = if c == d then ([], cs, true) else (c :: (Lib.cut cs [d]).1, (Lib.cut cs [d]).2.1, (Lib.cut cs [d]).2.2) := by
  by_cases h : c = d
  · subst h
    have : Lib.index (c :: cs) [c] = 0 := by unfold Lib.index; simp [List.isPrefixOf]
    simp [Lib.cut, this]
  · have e : Lib.index (c :: cs) [d] = if Lib.index cs [d] == -1 then -1 else Lib.index cs [d] + 1 := by
      rw [Lib.index.eq_def]
      simp [List.isPrefixOf, h]
      intro hh
      exact absurd hh.symm h
    simp only [beq_iff_eq, h, if_false]
    unfold Lib.cut
    rw [e]
    rcases Lib.index_spec cs [d] with ⟨h1, _⟩ | ⟨i, h1, h2, _⟩
    · simp [h1]
    · have : ((i : Int) == -1) = false := by rw [beq_eq_false_iff_ne]; omega
      rw [h1, this]
      have e2 : (0 : Int) ≤ (i : Int) := by omega
      have e3 : (0 : Int) ≤ (i : Int) + 1 := by omega
      have e4 : ((i : Int) + 1).toNat = i + 1 := by omega
      simp [e2, e3, e4]
theorem cut_nil (d : UInt8) : Lib.cut [] [d] = ([], [], false) := by
  simp [Lib.cut, Lib.index]
theorem cut_len (d : UInt8) : ∀ l : Bs, (Lib.cut l [d]).1.length + (Lib.cut l [d]).2.1.length + (if (Lib.cut l [d]).2.2 then 1 else 0) = l.length
  | [] => by simp [cut_nil]
  | c :: cs => by
    have ih := cut_len d cs
    rw [cut_cons]
    split
    · simp
    · simp only [List.length_cons]; omega

theorem cut_none (d : UInt8) : ∀ l : Bs, (Lib.cut l [d]).2.2 = false → (Lib.cut l [d]).2.1 = []
  | [] => by simp [cut_nil]
  | c :: cs => by
    have ih := cut_none d cs
    rw [cut_cons]
    split
    · simp
    · exact ih

/-- the lines, and whether an LF ends them -/
def splitLF : Bs → List (Bs × Bool)
  | [] => []
  | c :: cs => if c == 10 then ([], true) :: splitLF cs else
    match splitLF cs with
    | [] => [([c], false)]
    | (l, e) :: r => (c :: l, e) :: r
def lineOf (p : Bs × Bool) : Bs := if p.2 then Lib.trimSuffix p.1 [13] else p.1
/-- text.Lines -/
def lines (l : Bs) : List Bs := (splitLF l).map lineOf

theorem splitLF_cut : ∀ l : Bs, l ≠ [] → splitLF l = ((Lib.cut l [10]).1, (Lib.cut l [10]).2.2) :: splitLF (Lib.cut l [10]).2.1
  | [], h => absurd rfl h
  | c :: cs, _ => by
    rw [cut_cons, splitLF]
    split
    · rfl
    · cases cs with
      | nil => simp [cut_nil, splitLF]
      | cons d r => rw [splitLF_cut (d :: r) (by simp)]
theorem lines_cut (l : Bs) (h : l ≠ []) : lines l = lineOf ((Lib.cut l [10]).1, (Lib.cut l [10]).2.2) :: lines (Lib.cut l [10]).2.1 := by
  unfold lines
  rw [splitLF_cut l h]
  rfl

theorem dropWhile_all {p : UInt8 → Bool} : ∀ (a b : Bs), (∀ c ∈ a, p c = true) → (a ++ b).dropWhile p = b.dropWhile p
  | [], _, _ => rfl
  | c :: a, b, h => by
    rw [List.cons_append, List.dropWhile_cons, if_pos (h c (by simp))]
    exact dropWhile_all a b (fun x hx => h x (by simp [hx]))
theorem dropWhile_head {p : UInt8 → Bool} (l : Bs) (h : ∀ c r, l = c :: r → p c = false) : l.dropWhile p = l := by
  cases l with
  | nil => rfl
  | cons c r => rw [List.dropWhile_cons, h c r rfl]; simp
theorem trim_parts (a m b : Bs) (ha : ∀ c ∈ a, isWhite c = true) (hb : ∀ c ∈ b, isWhite c = true) (h1 : ∀ c r, m = c :: r → isWhite c = false) (h2 : ∀ c r, m = r ++ [c] → isWhite c = false) : trim (a ++ m ++ b) = m := by
  unfold trim
  rw [List.append_assoc, dropWhile_all a _ ha]
  cases m with
  | nil =>
    have : b.dropWhile isWhite = [] := by
      have := dropWhile_all b [] hb
      simpa using this
    simp [this]
  | cons c r =>
    rw [dropWhile_head ((c :: r) ++ b) (fun x y e => by
      simp only [List.cons_append, List.cons.injEq] at e
      rw [← e.1]; exact h1 c r rfl)]
    rw [List.reverse_append, dropWhile_all b.reverse _ (by simpa using hb), dropWhile_head, List.reverse_reverse]
    intro x y e
    have : (c :: r) = y.reverse ++ [x] := by
      have := congrArg List.reverse e
      simpa using this
    exact h2 x _ this

/-! ### body.Level -/
def lvl : Nat → Bs → Nat × Bs
  | 0, r => (0, r)
  | f + 1, r => match r.dropWhile (· == 32) with
    | [] => (0, r)
    | c :: t => if c == 62 then ((lvl f t).1 + 1, (lvl f t).2) else (0, r)
theorem dropWhile_len (p : UInt8 → Bool) : ∀ l : Bs, (l.dropWhile p).length ≤ l.length
  | [] => by simp
  | c :: l => by
    have := dropWhile_len p l
    rw [List.dropWhile_cons]
    split
    · simp only [List.length_cons]; omega
    · exact Nat.le_refl _
theorem lvl_fuel : ∀ (f : Nat) (r : Bs), r.length ≤ f → lvl f r = lvl r.length r := by
  intro f
  induction f using Nat.strongRecOn with
  | _ f ih =>
    intro r hr
    match f, r, hr with
    | 0, [], _ => rfl
    | f + 1, [], _ => simp [lvl]
    | f + 1, a :: r, hr =>
      simp only [List.length_cons, lvl]
      have hd := dropWhile_len (· == 32) (a :: r)
      split
      · rfl
      · rename_i c t e
        rw [e] at hd
        simp only [List.length_cons] at hd hr
        rw [ih f (by omega) t (by omega), ih r.length (by omega) t (by omega)]
/-- how many > stand in front, and what is left -/
def lv (r : Bs) : Nat × Bs := lvl r.length r
theorem lv_step (r : Bs) : lv r = match r.dropWhile (· == 32) with
    | [] => (0, r)
    | c :: t => if c == 62 then ((lv t).1 + 1, (lv t).2) else (0, r) := by
  unfold lv
  cases r with
  | nil => simp [lvl]
  | cons a r =>
    have hd := dropWhile_len (· == 32) (a :: r)
    simp only [List.length_cons, lvl]
    split
    · rfl
    · rename_i c t e
      rw [e] at hd
      simp only [List.length_cons] at hd
      rw [lvl_fuel r.length t (by omega)]
/-- body.Level -/
def level (l : Bs) : Nat × Bs := ((lv l).1, if 0 < (lv l).1 then Lib.trimPrefix (lv l).2 [32] else (lv l).2)

/-! ### body.Html -/
def letter (c : UInt8) : Bool := (97 ≤ c && c ≤ 122) || (65 ≤ c && c ≤ 90)
def digit (c : UInt8) : Bool := 48 ≤ c && c ≤ 57
/-- body.behind -/
def behind (s mark : Bs) : Nat := if 0 ≤ Lib.index s mark then (Lib.index s mark).toNat + mark.length else s.length
def breakNames : List Bs := [[98, 114], [112], [100, 105, 118], [108, 105], [116, 114], [117, 108], [111, 108], [116, 97, 98, 108, 101], [98, 108, 111, 99, 107, 113, 117, 111, 116, 101], [112, 114, 101], [104, 114], [104, 49], [104, 50], [104, 51], [104, 52], [104, 53], [104, 54]]
/-- body.breaks -/
def breaks (n : Bs) : Bool := breakNames.contains n
theorem behind_le (s mark : Bs) : behind s mark ≤ s.length := by
  unfold behind
  split
  · rename_i h
    have := Lib.index_room s mark h
    omega
  · exact Nat.le_refl _
/-- body.raw, on what is left -/
def rawGo : Nat → Bs → Bs → Nat
  | 0, r, _ => r.length
  | f + 1, r, name =>
    if r.length = 0 then 0 else
    let b := behind r [60, 47]
    let r2 := r.drop b
    if name.length ≤ r2.length && same (r2.take name.length) name then b + name.length + behind (r2.drop name.length) [62] else b + rawGo f r2 name
def raw (s name : Bs) : Nat := rawGo s.length s name

end Go.Proofs.YtjbllanlfgbpkaaGreatDoor.Sp
