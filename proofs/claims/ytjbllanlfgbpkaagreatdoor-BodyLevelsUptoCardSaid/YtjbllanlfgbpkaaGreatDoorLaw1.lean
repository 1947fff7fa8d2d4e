/- The plain law of BodyLevels. -/
import Derived.Test.YtjbllanlfgbpkaaGreatDoorSpec
namespace Go.Proofs.YtjbllanlfgbpkaaGreatDoor.Sp

/-- n signs, a gap ahead of each -/
def signs (gap : Bs) : Nat → Bs
  | 0 => []
  | n + 1 => signs gap n ++ gap ++ [62]
theorem signs_cons (gap : Bs) : ∀ n, signs gap (n + 1) = gap ++ [62] ++ signs gap n
  | 0 => by simp [signs]
  | n + 1 => by
    rw [signs, signs_cons gap n]
    have h := signs_cons gap n
    rw [signs] at h
    simp only [List.append_assoc] at h ⊢
    rw [h]
theorem signs_len (gap : Bs) : ∀ n, (signs gap n).length = n * (gap.length + 1)
  | 0 => by simp [signs]
  | n + 1 => by
    rw [signs, List.length_append, List.length_append, signs_len gap n, Nat.succ_mul]
    simp only [List.length_cons, List.length_nil]
    omega
theorem drop_gap (r : Bs) : ∀ k, (List.replicate k 32 ++ r).dropWhile (· == 32) = r.dropWhile (· == 32)
  | 0 => by simp
  | k + 1 => by
    rw [List.replicate_succ, List.cons_append, List.dropWhile_cons, if_pos (by decide)]
    exact drop_gap r k
theorem lv_sign (k : Nat) (r : Bs) : lv (List.replicate k 32 ++ [62] ++ r) = ((lv r).1 + 1, (lv r).2) := by
  rw [lv_step, List.append_assoc, drop_gap]
  simp
theorem lv_signs (k : Nat) (r : Bs) : ∀ n, lv (signs (List.replicate k 32) n ++ r) = ((lv r).1 + n, (lv r).2)
  | 0 => by simp [signs]
  | n + 1 => by
    rw [signs_cons, List.append_assoc, lv_sign, lv_signs k r n]
    simp [Nat.add_assoc]
theorem lv_zero (l : Bs) (h : (lv l).1 = 0) : lv l = (0, l) := by
  rw [lv_step] at h ⊢
  split
  · rfl
  · rename_i c t e
    rw [e] at h
    simp only at h
    split
    · rename_i hc
      rw [if_pos hc] at h
      simp at h
    · rfl
theorem lv_space (l : Bs) (h : (lv l).1 = 0) : lv (32 :: l) = (0, 32 :: l) := by
  refine lv_zero _ ?_
  rw [lv_step] at h ⊢
  rw [show (32 :: l : Bs).dropWhile (· == 32) = l.dropWhile (· == 32) by rw [List.dropWhile_cons, if_pos (by decide)]]
  split
  · rfl
  · rename_i c t e
    rw [e] at h
    simp only at h
    split
    · rename_i hc
      rw [if_pos hc] at h
      simp at h
    · rfl
theorem level_zero (l : Bs) (h : (level l).1 = 0) : (level l).2 = l := by
  unfold level at h ⊢
  simp only at h ⊢
  rw [h, if_neg (by omega), lv_zero l h]
theorem levels_law (l : Bs) (k n : Nat) (h : (level l).1 = 0) (hn : 1 ≤ n) : level (signs (List.replicate k 32) n ++ [32] ++ l) = (n, l) := by
  have h' : (lv l).1 = 0 := h
  unfold level
  rw [List.append_assoc, lv_signs k _ n, List.singleton_append, lv_space l h']
  simp only [Nat.zero_add]
  rw [if_pos (by omega)]
  simp [Lib.trimPrefix, Lib.hasPrefix]

end Go.Proofs.YtjbllanlfgbpkaaGreatDoor.Sp
