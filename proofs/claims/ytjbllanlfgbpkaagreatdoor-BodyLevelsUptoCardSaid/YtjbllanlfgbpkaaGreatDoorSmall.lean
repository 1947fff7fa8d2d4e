/- small: the examples of the documentation -/
import Derived.Test.YtjbllanlfgbpkaaGreatDoorDocs2
import Derived.Test.YtjbllanlfgbpkaaGreatDoorLevels
namespace Go.Proofs.YtjbllanlfgbpkaaGreatDoor
open Go.RowKit

def Sp.d1 : PartD := .mk [] Sp.htmlT [] [60, 98, 62, 120, 60, 47, 98, 62] []
def Sp.d2 : PartD := .mk [] Sp.plainT [] [121, 32, 10, 122] []
def Sp.d0 : PartD := .mk [] Sp.altT [] [] [Sp.d1, Sp.d2]
def Sp.smallSub (d : PartD) : Prop := d = Sp.d0 ∨ d = Sp.d1 ∨ d = Sp.d2
abbrev Sp.noAtt : PartD → Bool := fun _ => false

theorem small_closed : ∀ d, Sp.smallSub d → ∀ c ∈ d.parts, Sp.smallSub c := by
  rintro d (rfl | rfl | rfl) c hc
  · simp only [Sp.d0, PartD.parts, List.mem_cons, List.not_mem_nil, or_false] at hc
    rcases hc with rfl | rfl
    · exact .inr (.inl rfl)
    · exact .inr (.inr rfl)
  · simp [Sp.d1, PartD.parts] at hc
  · simp [Sp.d2, PartD.parts] at hc
theorem small_few : ∀ d, Sp.smallSub d → d.parts.length ≤ 1000000000 := by
  rintro d (rfl | rfl | rfl) <;> decide
theorem small_att : AttOk Sp.noAtt Sp.smallSub := by
  refine ⟨small_closed, small_few, ?_⟩
  intro d hd v w hv hG
  obtain ⟨a0, c0, a2, c2, a4, c4, rfl⟩ := hv.shape
  have hf : d.fields = [] := by rcases hd with rfl | rfl | rfl <;> rfl
  have hp := hv.open.1
  rw [hf] at hp ⊢
  exact attached_none [] _ _ _ _ _ w hp (by decide) (fun x hx => by cases hx) rfl
theorem small_cont : ContOk PartD.body Sp.smallSub := by
  intro d hd hr
  refine ⟨by rcases hd with rfl | rfl | rfl <;> decide, ?_, ?_⟩
  · rcases hd with rfl | rfl | rfl
    · exact absurd hr (by decide)
    · intro _; kernel_rfl
    · intro h; exact absurd rfl h
  · intro v w hv hG
    obtain ⟨a0, c0, a2, c2, a4, c4, rfl⟩ := hv.shape
    have hf : d.params = [] := by rcases hd with rfl | rfl | rfl <;> rfl
    have hp := hv.open.2.1
    rw [hf] at hp ⊢
    exact content_utf8 [] _ _ _ _ d.body w hG hp (by decide) (by decide) (by decide) (by rcases hd with rfl | rfl | rfl <;> decide) (by rcases hd with rfl | rfl | rfl <;> decide)

theorem t0 : Sp.text Sp.noAtt PartD.body Sp.d0 = [121, 10, 122, 10] := by kernel_rfl
theorem t1 : Sp.text Sp.noAtt PartD.body Sp.d1 = [120, 10] := by kernel_rfl
theorem n0 : (Sp.readable Sp.noAtt Sp.d0).length ≤ 1000 := by decide
theorem n1 : (Sp.readable Sp.noAtt Sp.d1).length ≤ 1000 := by decide
theorem w0 : Sp.within Sp.d0 = true := by decide
theorem y0 : (Sp.types Sp.d0).length = 3 := by
  unfold Sp.types
  rw [if_pos w0]
  rw [show (Sp.alls Sp.noClose Sp.d0).map PartD.type = [Sp.altT, Sp.htmlT, Sp.plainT] by decide]
  rw [List.mergeSort_of_pairwise (by decide)]
  decide
theorem y1 : (Sp.alls Sp.noClose Sp.d0).length ≤ 1000 := by decide
theorem z0 : Sp.docs Sp.noAtt Sp.d0 = [] := by decide
theorem l1 : Sp.level [62, 32, 62, 97] = (2, [97]) := by decide
theorem l2 : Sp.level [32, 62, 32, 97] = (1, [97]) := by decide
theorem l3 : Sp.level [97, 32, 62, 32, 98] = (0, [97, 32, 62, 32, 98]) := by decide
def Sp.smallHtml : Sp.Bs := [60, 112, 62, 97, 32, 38, 97, 109, 112, 59, 32, 98, 60, 98, 114, 62, 99, 60, 47, 112, 62, 60, 115, 99, 114, 105, 112, 116, 62, 120, 60, 47, 115, 99, 114, 105, 112, 116, 62]
theorem h1 : (Sp.html1 Sp.smallHtml).map Sp.dense = some [97, 32, 38, 32, 98, 10, 99, 10] := by kernel_rfl

def Sp.v1 : Value := .agg #[.slice none 0 0, str Sp.htmlT, .slice none 0 0, str [60, 98, 62, 120, 60, 47, 98, 62], .slice none 0 0]
def Sp.v2 : Value := .agg #[.slice none 0 0, str Sp.plainT, .slice none 0 0, str [121, 32, 10, 122], .slice none 0 0]
def Sp.v0 (b : Nat) : Value := .agg #[.slice none 0 0, str Sp.altT, .slice none 0 0, str [], .slice (some ⟨b, 0, none⟩) 2 2]
def Sp.kidsCells : Array Value := #[.slice none 0 0, str Sp.htmlT, .slice none 0 0, str [60, 98, 62, 120, 60, 47, 98, 62], .slice none 0 0, .slice none 0 0, str Sp.plainT, .slice none 0 0, str [121, 32, 10, 122], .slice none 0 0]
theorem pairs_nil (w : World) : PairsAt w (.slice none 0 0) [] := ⟨none, 0, rfl, fun j x h => by simp at h⟩
theorem small_part1 (w : World) : PartAt w Sp.d1 Sp.v1 := by
  unfold Sp.d1 Sp.v1 PartAt
  exact ⟨_, _, none, 0, rfl, Nat.le_refl _, pairs_nil w, pairs_nil w, trivial⟩
theorem small_part2 (w : World) : PartAt w Sp.d2 Sp.v2 := by
  unfold Sp.d2 Sp.v2 PartAt
  exact ⟨_, _, none, 0, rfl, Nat.le_refl _, pairs_nil w, pairs_nil w, trivial⟩
theorem small_part0 (w : World) (b : Nat) (h : w.heap[b]? = some (.cells Sp.kidsCells 26 (0, 0))) : PartAt w Sp.d0 (Sp.v0 b) := by
  unfold Sp.d0 Sp.v0 PartAt
  refine ⟨_, _, some ⟨b, 0, none⟩, 2, rfl, Nat.le_refl _, pairs_nil w, pairs_nil w, ?_⟩
  unfold PartsAt
  refine ⟨⟨b, 0, _, _, _, _, _, rfl, by rw [Lib.cell_of_heap h]; rfl, by rw [Lib.cell_of_heap h]; rfl, by rw [Lib.cell_of_heap h]; rfl, by rw [Lib.cell_of_heap h]; rfl, by rw [Lib.cell_of_heap h]; rfl, small_part1 w⟩, ?_⟩
  unfold PartsAt
  refine ⟨⟨b, 0, _, _, _, _, _, rfl, by rw [Lib.cell_of_heap h]; rfl, by rw [Lib.cell_of_heap h]; rfl, by rw [Lib.cell_of_heap h]; rfl, by rw [Lib.cell_of_heap h]; rfl, by rw [Lib.cell_of_heap h]; rfl, small_part2 w⟩, ?_⟩
  trivial

set_option maxRecDepth 100000 in
set_option maxHeartbeats 4000000 in
theorem small_any : SmallOk := by
  intro w hG
  go_enter Tryz.func8, Tryz.ntmps8
  go_wp2_with fail
  refine (level_any _ _ (by decide)).mono ?_
  rintro e w1 ⟨rfl, rfl⟩
  rw [show Sp.level (ByteArray.mk #[62, 32, 62, 97]).data.toList = (2, [97]) from l1]
  go_wp2_with fail
  refine (level_any _ _ (by decide)).mono ?_
  rintro e w1 ⟨rfl, rfl⟩
  rw [show Sp.level (ByteArray.mk #[32, 62, 32, 97]).data.toList = (1, [97]) from l2]
  go_wp2_with fail
  refine (level_any _ _ (by decide)).mono ?_
  rintro e w1 ⟨rfl, rfl⟩
  rw [show Sp.level (ByteArray.mk #[97, 32, 62, 32, 98]).data.toList = (0, [97, 32, 62, 32, 98]) from l3]
  go_wp2_with fail
  obtain ⟨W, hW⟩ : ∃ W, W = ((w1.alloc (.cells Sp.kidsCells 26)).alloc (.cells #[.slice none 0 0, str Sp.altT, .slice none 0 0, str [], .slice (some ⟨w1.heap.size, 0, none⟩) 2 2] 26)) := ⟨_, rfl⟩
  have hx0 : Ext w1 W := by rw [hW]; exact ext_alloc (ext_alloc (Below.refl _ _) _) _
  have hk : W.heap[w1.heap.size]? = some (.cells Sp.kidsCells 26 (0, 0)) := by
    rw [hW]; exact (Below.heap_alloc _ _ _ (by simp)).trans (heap_alloc_new _ _)
  have hp : W.heap[w1.heap.size + 1]? = some (.cells #[.slice none 0 0, str Sp.altT, .slice none 0 0, str [], .slice (some ⟨w1.heap.size, 0, none⟩) 2 2] 26 (0, 0)) := by
    rw [hW]
    have := heap_alloc_new (w1.alloc (.cells Sp.kidsCells 26)) (.cells #[.slice none 0 0, str Sp.altT, .slice none 0 0, str [], .slice (some ⟨w1.heap.size, 0, none⟩) 2 2] 26)
    rw [World.size_alloc] at this
    exact this
  unfold Sp.kidsCells Sp.htmlT Sp.plainT Sp.altT at hW
  rw [← hW]
  clear hW
  obtain ⟨out, ho1, ho2⟩ := Option.map_eq_some_iff.1 h1
  refine (html_any _ _ out (hG.ext hx0) (by decide) ho1).mono ?_
  rintro e w2 ⟨rfl, hx2⟩
  rw [ho2]
  clear ho1 ho2
  have cells : ∀ w', Ext W w' → (w'.cell? ⟨w1.heap.size + 1, 0, none⟩ = some (.slice none 0 0) ∧ w'.cell? ⟨w1.heap.size + 1, 1, none⟩ = some (str Sp.altT) ∧ w'.cell? ⟨w1.heap.size + 1, 2, none⟩ = some (.slice none 0 0) ∧ w'.cell? ⟨w1.heap.size + 1, 3, none⟩ = some (str []) ∧ w'.cell? ⟨w1.heap.size + 1, 4, none⟩ = some (.slice (some ⟨w1.heap.size, 0, none⟩) 2 2)) ∧
      (w'.cell? ⟨w1.heap.size, 0, none⟩ = some (.slice none 0 0) ∧ w'.cell? ⟨w1.heap.size, 1, none⟩ = some (str Sp.htmlT) ∧ w'.cell? ⟨w1.heap.size, 2, none⟩ = some (.slice none 0 0) ∧ w'.cell? ⟨w1.heap.size, 3, none⟩ = some (str [60, 98, 62, 120, 60, 47, 98, 62]) ∧ w'.cell? ⟨w1.heap.size, 4, none⟩ = some (.slice none 0 0)) ∧ PartAt w' Sp.d0 (Sp.v0 w1.heap.size) ∧ PartAt w' Sp.d1 Sp.v1 ∧ G w' := by
    intro w' hx
    have hp' := (hx.block _ (lt_of_block hp)).trans hp
    have hk' := (hx.block _ (lt_of_block hk)).trans hk
    refine ⟨⟨?_, ?_, ?_, ?_, ?_⟩, ⟨?_, ?_, ?_, ?_, ?_⟩, small_part0 w' _ hk', small_part1 w', (hG.ext hx0).ext hx⟩
    all_goals first | (rw [Lib.cell_of_heap hp']; rfl) | (rw [Lib.cell_of_heap hk']; rfl)
  have CE := Lib.hid cells
  clear cells hk hp
  obtain ⟨⟨b0, b1, b2, b3, b4⟩, _, P0, P1, hG2⟩ := CE.out w2 hx2
  go_wp2_with fail
  refine (text_any small_att small_cont Sp.d0 _ _ hG2 (.inl rfl) P0 n0).mono ?_
  rintro e w3 ⟨rfl, hx3⟩
  rw [t0]
  have hx3' := ext_trans hx2 hx3
  clear b0 b1 b2 b3 b4 P0 P1 hG2
  obtain ⟨⟨b0, b1, b2, b3, b4⟩, ⟨c0, c1, c2, c3, c4⟩, P0, P1, hG2⟩ := CE.out w3 hx3'
  go_wp2_with fail
  refine (text_any small_att small_cont Sp.d1 _ _ hG2 (.inr (.inl rfl)) P1 n1).mono ?_
  rintro e w4 ⟨rfl, hx4⟩
  rw [t1]
  have hx4' := ext_trans hx3' hx4
  clear b0 b1 b2 b3 b4 c0 c1 c2 c3 c4 P0 P1 hG2
  obtain ⟨⟨b0, b1, b2, b3, b4⟩, _, P0, P1, hG2⟩ := CE.out w4 hx4'
  go_wp2_with fail
  refine (types_in small_closed small_few Sp.d0 _ _ (.inl rfl) P0 w0 y1).mono ?_
  rintro e w5 ⟨a, c, rfl, _, hx5⟩
  rw [y0]
  have hx5' := ext_trans hx4' hx5
  clear b0 b1 b2 b3 b4 P0 P1 hG2
  obtain ⟨⟨b0, b1, b2, b3, b4⟩, _, P0, P1, hG2⟩ := CE.out w5 hx5'
  go_wp2_with fail
  refine (docs_none small_att Sp.d0 _ _ hG2 (.inl rfl) P0 w0 z0).mono ?_
  rintro e w6 ⟨rfl, hx6⟩
  have hx6' := ext_trans hx5' hx6
  clear b0 b1 b2 b3 b4 P0 P1 hG2
  go_wp2_with fail
  go_ret
  exact ⟨rfl, ext_trans hx0 hx6'⟩

end Go.Proofs.YtjbllanlfgbpkaaGreatDoor
