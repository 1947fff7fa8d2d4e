/- Plain functions, continued: HTML. -/
import Derived.Test.YtjbllanlfgbpkaaGreatDoorSpec
namespace Go.Proofs.YtjbllanlfgbpkaaGreatDoor.Sp

theorem index_at (s sub : Bs) (h : 0 ≤ Lib.index s sub) : (s.drop (Lib.index s sub).toNat).take sub.length = sub := by
  rcases Lib.index_spec s sub with ⟨h1, _⟩ | ⟨i, h1, _, h3, _⟩
  · omega
  · rw [h1]
    simp only [Lib.occAt] at h3
    have := List.isPrefixOf_iff_prefix.1 h3
    simpa using (List.prefix_iff_eq_take.1 this).symm
theorem behind_pos (r : Bs) (mark : Bs) (hr : r ≠ []) (hm : mark ≠ []) : 0 < behind r mark := by
  unfold behind
  split
  · have : 0 < mark.length := List.length_pos_iff.2 hm
    omega
  · exact List.length_pos_iff.2 hr
/-- what stands in front of where it ends -/
theorem behind_mark (r mark : Bs) (h : behind r mark < r.length) : mark.length ≤ behind r mark ∧ (r.drop (behind r mark - mark.length)).take mark.length = mark := by
  unfold behind at *
  split at h
  · rename_i h0
    rw [if_pos h0]
    refine ⟨by omega, ?_⟩
    rw [Nat.add_sub_cancel]
    exact index_at r mark h0
  · omega

theorem rawGo_fuel : ∀ (f : Nat) (r name : Bs), r.length ≤ f → rawGo f r name = rawGo r.length r name := by
  intro f
  induction f using Nat.strongRecOn with
  | _ f ih =>
    intro r name hr
    match f, r, hr with
    | 0, [], _ => rfl
    | f + 1, [], _ => simp [rawGo]
    | f + 1, a :: r, hr =>
      have hp := behind_pos (a :: r) [60, 47] (by simp) (by simp)
      simp only [List.length_cons] at hr
      simp only [List.length_cons, rawGo]
      have hd : ((a :: r).drop (behind (a :: r) [60, 47])).length ≤ r.length := by
        rw [List.length_drop, List.length_cons]; omega
      rw [ih f (by omega) _ _ (by omega)]
      split
      · rfl
      · split
        · rfl
        · rw [← ih r.length (by omega) _ _ hd]
/-- on what is left, one round -/
def rawL (r name : Bs) : Nat := rawGo r.length r name
theorem rawL_nil (name : Bs) : rawL [] name = 0 := rfl
theorem rawL_step (r name : Bs) (hr : r ≠ []) : rawL r name =
    if name.length ≤ (r.drop (behind r [60, 47])).length && same ((r.drop (behind r [60, 47])).take name.length) name then behind r [60, 47] + name.length + behind ((r.drop (behind r [60, 47])).drop name.length) [62] else behind r [60, 47] + rawL (r.drop (behind r [60, 47])) name := by
  unfold rawL
  cases r with
  | nil => exact absurd rfl hr
  | cons a r =>
    have hp := behind_pos (a :: r) [60, 47] (by simp) (by simp)
    have hd : ((a :: r).drop (behind (a :: r) [60, 47])).length ≤ r.length := by
      rw [List.length_drop, List.length_cons]; omega
    simp only [List.length_cons, rawGo]
    rw [rawGo_fuel r.length _ _ hd]
    rfl

theorem rawL_le (name : Bs) : ∀ (n : Nat) (r : Bs), r.length ≤ n → rawL r name ≤ r.length := by
  intro n
  induction n with
  | zero =>
    intro r hr
    have : r = [] := List.length_eq_zero_iff.1 (by omega)
    rw [this, rawL_nil]
    exact Nat.zero_le _
  | succ n ih =>
    intro r hr
    by_cases h0 : r = []
    · rw [h0, rawL_nil]; exact Nat.zero_le _
    · have hp := behind_pos r [60, 47] h0 (by simp)
      have hb := behind_le r [60, 47]
      rw [rawL_step r name h0]
      have hl := List.length_pos_iff.2 h0
      split
      · rename_i h
        simp only [Bool.and_eq_true, decide_eq_true_eq] at h
        have h3 := behind_le ((r.drop (behind r [60, 47])).drop name.length) [62]
        have h4 := h.1
        rw [List.length_drop] at h3 h4
        rw [List.length_drop] at h3
        omega
      · have := ih (r.drop (behind r [60, 47])) (by rw [List.length_drop]; omega)
        rw [List.length_drop] at this
        omega
theorem raw_le (r name : Bs) : raw r name ≤ r.length := rawL_le name r.length r (Nat.le_refl _)

def alnum (c : UInt8) : Bool := letter c || digit c
def opens (c0 c1 : UInt8) : Bool := c0 == 60 && (letter c1 || c1 == 47 || c1 == 33 || c1 == 63)
def scriptS : Bs := [115, 99, 114, 105, 112, 116]
def styleS : Bs := [115, 116, 121, 108, 101]
/-- where a tag's name begins -/
def nameAt (c1 : UInt8) : Nat := if c1 == 47 then 2 else 1
def tagName (t : Bs) (c1 : UInt8) : Bs := lowerL ((t.drop (nameAt c1)).takeWhile alnum)
def rawName (c1 : UInt8) (n : Bs) : Bool := nameAt c1 == 1 && (n == scriptS || n == styleS)
/-- body.tag -/
def tagOf (t : Bs) : Nat × Bs :=
  match t with
  | c0 :: c1 :: _ =>
    if opens c0 c1 then
      if Lib.hasPrefix t [60, 33, 45, 45] then (4 + behind (t.drop 4) [45, 45, 62], [])
      else (if rawName c1 (tagName t c1) then behind t [62] + raw (t.drop (behind t [62])) (tagName t c1) else behind t [62], tagName t c1)
    else (0, [])
  | _ => (0, [])

theorem takeWhile_split {p : UInt8 → Bool} : ∀ (a b : Bs), (∀ c ∈ a, p c = true) → (∀ c r, b = c :: r → p c = false) → (a ++ b).takeWhile p = a
  | [], [], _, _ => rfl
  | [], c :: r, _, h => by simp [h c r rfl]
  | c :: a, b, h, h2 => by
    rw [List.cons_append, List.takeWhile_cons, if_pos (h c (by simp))]
    rw [takeWhile_split a b (fun x hx => h x (by simp [hx])) h2]

end Go.Proofs.YtjbllanlfgbpkaaGreatDoor.Sp
