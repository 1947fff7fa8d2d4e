/- body.counts, within -/
import Derived.Test.YtjbllanlfgbpkaaGreatDoorPart
namespace Go.Proofs.YtjbllanlfgbpkaaGreatDoor
open Go.RowKit

mutual
def Sp.counts : PartD → Nat → Nat → Bool × Nat
  | .mk _ _ _ _ q, lv, n => if 40 < lv ∨ 300 < n + 1 then (false, n + 1) else Sp.countsL q (lv + 1) (n + 1)
def Sp.countsL : List PartD → Nat → Nat → Bool × Nat
  | [], _, n => (true, n)
  | d :: q, lv, n => if (Sp.counts d lv n).1 then Sp.countsL q lv (Sp.counts d lv n).2 else (false, (Sp.counts d lv n).2)
end
theorem Sp.countsL_le : ∀ (q : List PartD) (lv n : Nat), (∀ d ∈ q, ∀ lv n, (Sp.counts d lv n).1 = true → (Sp.counts d lv n).2 ≤ 300) → n ≤ 300 → (Sp.countsL q lv n).1 = true → (Sp.countsL q lv n).2 ≤ 300
  | [], lv, n, _, hn, _ => by rw [Sp.countsL]; exact hn
  | d :: q, lv, n, hd, hn, h => by
    rw [Sp.countsL] at h ⊢
    by_cases hc : (Sp.counts d lv n).1 = true
    · rw [if_pos hc] at h ⊢
      exact Sp.countsL_le q lv _ (fun d hm => hd d (by simp [hm])) (hd d (by simp) lv n hc) h
    · rw [if_neg hc] at h
      cases h
theorem Sp.counts_le : ∀ (d : PartD) (lv n : Nat), (Sp.counts d lv n).1 = true → (Sp.counts d lv n).2 ≤ 300
  | .mk _ _ _ _ q, lv, n, h => by
    rw [Sp.counts] at h ⊢
    by_cases hc : 40 < lv ∨ 300 < n + 1
    · rw [if_pos hc] at h; cases h
    · rw [if_neg hc] at h ⊢
      exact Sp.countsL_le q _ _ (fun d hm lv n => Sp.counts_le d lv n) (by omega) h

theorem Sp.countsL_ge : ∀ (q : List PartD) (lv n : Nat), (∀ d ∈ q, ∀ lv n, n ≤ (Sp.counts d lv n).2) → n ≤ (Sp.countsL q lv n).2
  | [], lv, n, _ => by rw [Sp.countsL]; exact Nat.le_refl _
  | d :: q, lv, n, hd => by
    rw [Sp.countsL]
    have h1 := hd d (by simp) lv n
    split
    · exact Nat.le_trans h1 (Sp.countsL_ge q lv _ (fun d hm => hd d (by simp [hm])))
    · exact h1
theorem Sp.counts_ge1 : ∀ (d : PartD) (lv n : Nat), n + 1 ≤ (Sp.counts d lv n).2
  | .mk _ _ _ _ q, lv, n => by
    rw [Sp.counts]
    split
    · exact Nat.le_refl _
    · exact Sp.countsL_ge q _ _ (fun d hm lv n => Nat.le_trans (Nat.le_succ _) (Sp.counts_ge1 d lv n))

/-- the counter -/
def Ctr (b : Nat) (n : Nat) (w : World) : Prop := w.heap[b]? = some (.cells #[.int .i64 n] 3 (0, 0))

theorem Ctr.one {b n : Nat} {w : World} (h : Ctr b n w) (o : Nat) : w.cell? ⟨b, o + 1, none⟩ = none := by
  unfold World.cell?
  unfold Ctr at h
  simp [h]

set_option maxHeartbeats 1000000 in
theorem counts_step (f : List (Sp.Bs × Sp.Bs)) (t : Sp.Bs) (p : List (Sp.Bs × Sp.Bs)) (bd : Sp.Bs) (q : List PartD) (v : Value) (lv n b : Nat) (w : World)
    (ih : ∀ d ∈ q, ∀ (v : Value) (lv n b : Nat) (w : World), PartAt w d v → lv ≤ 41 → n ≤ 300 → Ctr b n w →
      Calls Tryz.prog 68 #[v, .int .i64 lv, .pointer (some ⟨b, 0, none⟩)] w fun e w' => e = .returned (.bool (Sp.counts d lv n).1) ∧ Ctr b (Sp.counts d lv n).2 w' ∧ Only (· = b) w w')
    (hv : PartAt w (.mk f t p bd q) v) (hlv : lv ≤ 41) (hn : n ≤ 300) (hb : Ctr b n w) :
    Calls Tryz.prog 68 #[v, .int .i64 lv, .pointer (some ⟨b, 0, none⟩)] w fun e w' => e = .returned (.bool (Sp.counts (.mk f t p bd q) lv n).1) ∧ Ctr b (Sp.counts (.mk f t p bd q) lv n).2 w' ∧ Only (· = b) w w' := by
  unfold PartAt at hv
  obtain ⟨vf, vp, a, c, rfl, hlc, h1, h2, h3⟩ := hv
  have c0 := cell_of_one hb
  unfold Ctr at hb
  have hblt : b < w.heap.size := lt_of_block hb
  have hb1 : (w.alloc (.cells #[vf, str t, vp, str bd, .slice a q.length c] 26)).heap[b]? = some (.cells #[.int .i64 n] 3 (0, 0)) := by
    rw [Below.heap_alloc _ _ _ hblt]; exact hb
  have c1 := cell_of_one hb1
  have f1 := Lib.frozen_of_heap hb1 0
  have IH := Lib.hid ih
  have hsp : Sp.counts (.mk f t p bd q) lv n = if 40 < lv ∨ 300 < n + 1 then (false, n + 1) else Sp.countsL q (lv + 1) (n + 1) := by rw [Sp.counts]
  have HSP := Lib.hid hsp
  have hO : Only (· = b) w ((w.setCell ⟨b, 0, none⟩ (.int .i64 (n + 1))).alloc (.cells #[vf, str t, vp, str bd, .slice a q.length c] 26)) := ((Only.refl (· = b) w).setCell (fun _ => rfl) _).alloc _
  have hb2' : Ctr b (n + 1) (w.setCell ⟨b, 0, none⟩ (.int .i64 (n + 1))) := by
    have := heap_setCell_same w b 0 _ _ (.int .i64 (n + 1)) hb
    simpa [Ctr] using this
  have hb2 : Ctr b (n + 1) ((w.setCell ⟨b, 0, none⟩ (.int .i64 (n + 1))).alloc (.cells #[vf, str t, vp, str bd, .slice a q.length c] 26)) := by
    unfold Ctr
    rw [Below.heap_alloc _ _ _ (lt_of_block hb2')]
    exact hb2'
  have h3' : PartsAt ((w.setCell ⟨b, 0, none⟩ (.int .i64 (n + 1))).alloc (.cells #[vf, str t, vp, str bd, .slice a q.length c] 26)) q a 0 :=
    PartsAt.keeps (.of_only hO (fun k hk o => by subst hk; exact Ctr.one hb o)) q a 0 h3
  clear ih hsp
  by_cases hc : 40 < lv ∨ 300 < n + 1
  · have hr := HSP.out
    rw [if_pos hc] at hr
    rw [hr]
    clear hr HSP
    by_cases hc1 : 40 < lv
    · go_enter Tryz.func68, Tryz.ntmps68
      go_wp2_with fail
      go_ret
      exact ⟨rfl, hb2, hO⟩
    · go_enter Tryz.func68, Tryz.ntmps68
      go_wp2_with fail
      go_ret
      exact ⟨rfl, hb2, hO⟩
  have hc1 : lv ≤ 40 := by omega
  have hc2 : n + 1 ≤ 300 := by omega
  have hr := HSP.out
  rw [if_neg hc] at hr
  rw [hr]
  clear hr HSP hc
  go_enter Tryz.func68, Tryz.ntmps68
  go_wp2_with fail
  generalize (w.setCell ⟨b, 0, none⟩ (.int .i64 (n + 1))).alloc (.cells #[vf, str t, vp, str bd, .slice a q.length c] 26) = w2 at *
  clear hb1 c1 f1 hb2' c0 h3
  have HS := Lib.hid (show Sp.countsL q (lv + 1) (n + 1) = Sp.countsL (q.drop 0) (lv + 1) (n + 1) by rw [List.drop_zero])
  go_loopw [25] (fun j wr => ∃ (k n' : Nat), j = .int .i64 k ∧ k ≤ q.length ∧ n' ≤ 300 ∧ k < n' ∧ Hid (Sp.countsL q (lv + 1) (n + 1) = Sp.countsL (q.drop k) (lv + 1) n') ∧ Ctr b n' wr ∧ Only (· = b) w2 wr) (fun j _ => q.length - (intOf j).toNat)
  case atStart => exact ⟨0, n + 1, rfl, Nat.zero_le _, hc2, Nat.succ_pos _, HS, hb2, Only.refl _ _⟩
  case round =>
    obtain ⟨k, n', rfl, hk, hn', hkn, HR, hbr, hOr⟩ := hrel
    clear HS
    by_cases hlt : k < q.length
    case neg =>
      have hfin := HR.out
      rw [List.drop_eq_nil_of_le (by omega), Sp.countsL] at hfin
      have HF := Lib.hid hfin
      clear HR hfin
      go_wp2_with fail
      go_ret
      rw [HF.out]
      exact ⟨rfl, hbr, hO.trans hOr (fun _ _ h => h)⟩
    have hd : q[k]? = some q[k] := List.getElem?_eq_getElem hlt
    have hPr := PartsAt.keeps (.of_only hOr (fun k hk o => by subst hk; exact Ctr.one hb2 o)) q a 0 h3'
    obtain ⟨g, o, a0, cc0, a2, cc2, a4, cc4, rfl, e0, e1, e2, e3, e4, hdp⟩ := PartsAt.at q a 0 k q[k] hPr hd
    rw [Nat.zero_add] at e0 e1 e2 e3 e4
    have hmem : q[k] ∈ q := List.getElem_mem hlt
    have HI := Lib.hid (IH.out _ hmem)
    have hst : Sp.countsL (q.drop k) (lv + 1) n' = if (Sp.counts q[k] (lv + 1) n').1 then Sp.countsL (q.drop (k + 1)) (lv + 1) (Sp.counts q[k] (lv + 1) n').2 else (false, (Sp.counts q[k] (lv + 1) n').2) := by
      rw [List.drop_eq_getElem_cons hlt, Sp.countsL]
    have HST := Lib.hid hst
    clear hst hd hmem hPr
    go_wp2_with fail
    refine (HI.out _ (lv + 1) n' b _ (PartAt.ext (ext_alloc (Below.refl _ _) _) _ _ hdp) (by omega) hn' ?ctr).mono ?_
    case ctr =>
      unfold Ctr
      rw [Below.heap_alloc _ _ _ (lt_of_block hbr)]
      exact hbr
    rintro e w4 ⟨rfl, hb4, hO4⟩
    have hO5 : Only (· = b) w2 w4 := (hOr.alloc _).trans hO4 (fun _ _ h => h)
    clear hO4 hdp HI
    cases hcb : (Sp.counts q[k] (lv + 1) n').1 with
    | true =>
      have hle : (Sp.counts q[k] (lv + 1) n').2 ≤ 300 := Sp.counts_le _ _ _ hcb
      have hge := Sp.counts_ge1 q[k] (lv + 1) n'
      have hnew := HR.out.trans HST.out
      rw [hcb, if_pos rfl] at hnew
      have HN := Lib.hid hnew
      clear hnew HR HST hcb
      generalize (Sp.counts q[k] (lv + 1) n').2 = n2 at *
      go_wp2_with fail
      exact ⟨⟨k + 1, n2, by go_num, hlt, hle, by omega, HN, hb4, hO5⟩, by simp [intOf]; omega⟩
    | false =>
      have hnew := HR.out.trans HST.out
      rw [hcb, if_neg (by simp)] at hnew
      have HN := Lib.hid hnew
      clear hnew HR HST hcb
      generalize (Sp.counts q[k] (lv + 1) n').2 = n2 at *
      go_wp2_with fail
      go_ret
      rw [HN.out]
      exact ⟨rfl, hb4, hO.trans hO5 (fun _ _ h => h)⟩

theorem counts_any : ∀ (m : Nat) (d : PartD), SizeOf.sizeOf d ≤ m → ∀ (v : Value) (lv n b : Nat) (w : World), PartAt w d v → lv ≤ 41 → n ≤ 300 → Ctr b n w →
    Calls Tryz.prog 68 #[v, .int .i64 lv, .pointer (some ⟨b, 0, none⟩)] w fun e w' => e = .returned (.bool (Sp.counts d lv n).1) ∧ Ctr b (Sp.counts d lv n).2 w' ∧ Only (· = b) w w' := by
  intro m
  induction m with
  | zero => intro d h; cases d; simp at h
  | succ m ih =>
    intro d h v lv n b w hv hlv hn hb
    cases d with
    | mk f t p bd q =>
      refine counts_step f t p bd q v lv n b w ?_ hv hlv hn hb
      intro d hd
      refine ih d ?_
      have := List.sizeOf_lt_of_mem hd
      simp at h
      omega

def Sp.within (d : PartD) : Bool := (Sp.counts d 1 0).1
set_option maxHeartbeats 1000000 in
theorem within_any (d : PartD) (v : Value) (w : World) (hv : PartAt w d v) :
    Calls Tryz.prog 28 #[v] w fun e w' => e = .returned (.bool (Sp.within d)) ∧ Ext w w' := by
  cases d with
  | mk f t p bd q =>
  have hv0 := hv
  unfold PartAt at hv
  obtain ⟨vf, vp, a, c, rfl, hlc, h1, h2, h3⟩ := hv
  have hx : Ext w ((w.alloc (.cells #[vf, str t, vp, str bd, .slice a q.length c] 26)).alloc (.cells #[.int .i64 0] 3)) := ext_alloc (ext_alloc (Below.refl _ _) _) _
  have hb : Ctr (w.heap.size + 1) 0 ((w.alloc (.cells #[vf, str t, vp, str bd, .slice a q.length c] 26)).alloc (.cells #[.int .i64 0] 3)) := by
    have := heap_alloc_new (w.alloc (.cells #[vf, str t, vp, str bd, .slice a q.length c] 26)) (.cells #[.int .i64 0] 3)
    rw [World.size_alloc] at this
    exact this
  go_enter Tryz.func28, Tryz.ntmps28
  go_wp2_with fail
  refine (counts_any _ _ (Nat.le_refl _) _ 1 0 _ _ (PartAt.ext hx _ _ hv0) (by omega) (by omega) hb).mono ?_
  rintro e w4 ⟨rfl, hb4, hO4⟩
  have hx4 : Ext w w4 := hx.trans (hO4.below hx.size (fun k hk e => by omega))
  go_wp2_with fail
  go_ret
  exact ⟨rfl, hx4⟩

end Go.Proofs.YtjbllanlfgbpkaaGreatDoor
