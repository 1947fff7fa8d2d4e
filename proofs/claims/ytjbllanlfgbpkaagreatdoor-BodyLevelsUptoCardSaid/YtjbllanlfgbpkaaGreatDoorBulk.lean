/- What the bound of the second form gives. -/
import Derived.Test.YtjbllanlfgbpkaaGreatDoorRows
namespace Go.Proofs.YtjbllanlfgbpkaaGreatDoor.bulks

theorem one_le {H : Type} (d : DataW H) : 1 ≤ Rows.uptoBulk d := by
  cases d with
  | lit l => cases l <;> simp [Rows.uptoBulk]
  | nil => simp [Rows.uptoBulk]
  | ptr d => simp [Rows.uptoBulk]
  | slice elems spare => simp [Rows.uptoBulk]
  | agg parts => simp [Rows.uptoBulk]
  | iface t d => simp [Rows.uptoBulk]
  | map entries => simp [Rows.uptoBulk]
  | held h => simp [Rows.uptoBulk]
theorem part_le {H : Type} {d : DataW H} {l : List (DataW H)} (h : d ∈ l) : Rows.uptoBulk d ≤ Rows.uptoBulkAll l := by
  induction l with
  | nil => cases h
  | cons x r ih =>
    simp only [Rows.uptoBulkAll]
    cases List.mem_cons.1 h with
    | inl e => subst e; omega
    | inr e => have := ih e; omega
theorem string_eq {H : Type} (bytes : List UInt8) : Rows.uptoBulk (DataW.lit (H := H) (.string bytes)) = bytes.length + 1 := by
  simp [Rows.uptoBulk]
theorem bound {H : Type} {l : List (DataW H)} (hk : Rows.uptoSmall H l = true) : Rows.uptoBulkAll l ≤ 1048576 := by
  simpa [Rows.uptoSmall] using hk
/-- a string among what is read -/
theorem string_le {H : Type} {bytes : List UInt8} {l : List (DataW H)} (hm : DataW.lit (.string bytes) ∈ l) (hk : Rows.uptoSmall H l = true) : bytes.length ≤ 1048576 := by
  have h1 := bound hk
  have h2 := part_le hm
  rw [string_eq] at h2
  omega

end Go.Proofs.YtjbllanlfgbpkaaGreatDoor.bulks
