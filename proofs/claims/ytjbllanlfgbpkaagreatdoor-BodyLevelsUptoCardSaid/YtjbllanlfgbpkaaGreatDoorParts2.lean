/- body.parts: the recursive closure, the iterator -/
import Derived.Test.YtjbllanlfgbpkaaGreatDoorParts1
namespace Go.Proofs.YtjbllanlfgbpkaaGreatDoor
open Go.RowKit

attribute [local go_sem] Oper.semAt_some wide_fn wide_depth round_fn round_depth

/-- five cells of a block that T holds -/
theorem box5T {w w' : World} {T : BSet} {g : Nat} {v0 v1 v2 v3 v4 : Value} (hT : T g) (hO : Only (fun b => ¬ T b) w w')
    (h : w.cell? ⟨g, 0, none⟩ = some v0 ∧ w.cell? ⟨g, 1, none⟩ = some v1 ∧ w.cell? ⟨g, 2, none⟩ = some v2 ∧ w.cell? ⟨g, 3, none⟩ = some v3 ∧ w.cell? ⟨g, 4, none⟩ = some v4) :
    w'.cell? ⟨g, 0, none⟩ = some v0 ∧ w'.cell? ⟨g, 1, none⟩ = some v1 ∧ w'.cell? ⟨g, 2, none⟩ = some v2 ∧ w'.cell? ⟨g, 3, none⟩ = some v3 ∧ w'.cell? ⟨g, 4, none⟩ = some v4 := by
  obtain ⟨h0, h1, h2, h3, h4⟩ := h
  have mv : ∀ (o : Nat) (v : Value), w.cell? ⟨g, o, none⟩ = some v → w'.cell? ⟨g, o, none⟩ = some v := fun o v hc =>
    (World.cell?_of_block (a := ⟨g, o, none⟩) (hO.block g (cell_lt hc) (fun hn => hn hT))).trans hc
  exact ⟨mv _ _ h0, mv _ _ h1, mv _ _ h2, mv _ _ h3, mv _ _ h4⟩

set_option maxHeartbeats 4000000 in
theorem pvisit_step {wB : World} {clo : PartD → Bool} {gc : Nat} {lc : Array Value} {Sub : PartD → Prop} (hC : CloOk clo gc lc wB Sub) (eg : ∀ args w, (callFunc gc args).run Tryz.prog w = .ok (.enter gc args) w)
    {l yb cb vb : Nat} {xs : List Value} {J : Nat → BSet → World → Prop} {Jx : BSet → World → Prop} (hY : YieldsT l xs J Jx)
    (f : List (Sp.Bs × Sp.Bs)) (t : Sp.Bs) (p : List (Sp.Bs × Sp.Bs)) (b : Sp.Bs) (q : List PartD) (hs : Sub (.mk f t p b q)) (ih : ∀ d ∈ q, PVisitAt wB clo l yb cb vb gc lc xs J Jx d) : PVisitAt wB clo l yb cb vb gc lc xs J Jx (.mk f t p b q) := by
  intro v k T W hv hxs hJ hT hE hP
  have hv0 := hv
  obtain ⟨a0, c0, a2, c2, a4, c4, rfl⟩ := hv.shape
  simp only [PartD.fields, PartD.type, PartD.params, PartD.body, PartD.parts] at hv hv0 hxs ⊢
  have hx1 : Ext W (W.alloc (.cells #[.slice a0 f.length c0, str t, .slice a2 p.length c2, str b, .slice a4 q.length c4] 26)) := ext_alloc (Below.refl _ _) _
  obtain ⟨T1, hT1⟩ : ∃ T1 : BSet, T1 = fun b => T b ∨ b = W.heap.size := ⟨_, rfl⟩
  have hTT : ∀ b, T b → T1 b := fun b h => by rw [hT1]; exact .inl h
  have hTB : T1 W.heap.size := by rw [hT1]; exact .inr rfl
  have hJ1 : J k T1 _ := hY.step _ _ _ _ _ hJ hx1 hTT (fun b h => by rw [hT1] at h; exact h.imp id (fun e => by subst e; simp))
  have hTn : ∀ b, b < W.heap.size → T1 b → T b := fun b hb h => by rw [hT1] at h; exact h.elim id (fun e => by omega)
  have hH1 := hT.mono hTT
  have hE1 := ext_trans hE hx1
  have hP1 : PBox l yb cb vb gc lc _ := hT.box hP (Only.of_ext hx1)
  obtain ⟨y1, y2, y3⟩ := hP1
  have hbox := box5 (Below.refl (W.alloc (.cells #[.slice a0 f.length c0, str t, .slice a2 p.length c2, str b, .slice a4 q.length c4] 26)).heap.size _)
  obtain ⟨b0, b1, b2, b3, b4⟩ := hbox
  have hO1 : Only (fun b => ¬ T b) W (W.alloc (.cells #[.slice a0 f.length c0, str t, .slice a2 p.length c2, str b, .slice a4 q.length c4] 26)) := Only.of_ext hx1
  clear hT1
  generalize hW1 : W.alloc (.cells #[.slice a0 f.length c0, str t, .slice a2 p.length c2, str b, .slice a4 q.length c4] 26) = W1 at *
  generalize hB : W.heap.size = B at *
  have HXS := Lib.hid hxs
  have IH := Lib.hid ih
  have hlen := hC.2.1 _ hs
  simp only [PartD.parts] at hlen
  have HR := Lib.hid (show alls wB clo (.mk f t p b q) (.agg #[.slice a0 f.length c0, str t, .slice a2 p.length c2, str b, .slice a4 q.length c4]) = (.mk f t p b q, .agg #[.slice a0 f.length c0, str t, .slice a2 p.length c2, str b, .slice a4 q.length c4]) :: (if clo (.mk f t p b q) then [] else allsL wB clo q a4 0) by rw [alls]; rfl)
  have h0 := hxs 0 _ (by rw [HR.out]; rfl)
  rw [Nat.add_zero] at h0
  obtain ⟨fn, tmps, assign, body, hy, hR⟩ := hY.yield k _ T1 _ h0 hJ1
  clear hxs ih h0 hJ hv
  refine callsIn_of_wp Tryz.func103 rfl trivial ?_ rfl
  simp only [Tryz.ntmps103, List.size_toArray, List.length_cons, List.length_nil, Nat.reduceAdd, Nat.reduceSub, Array.replicate_succ, Array.replicate_zero, List.push_toArray, List.append_toArray, List.nil_append, List.cons_append]
  gi_wp2_with fail
  refine hR.mono ?_
  rintro e W4 ⟨hO4, (⟨rfl, hJ4⟩ | ⟨rfl, hJ4⟩)⟩
  case inr =>
    gi_wp2_with fail
    go_ret
    exact ⟨hO1.trans hO4 (fun k hk hn hk2 => hn (hTT _ hk2)), T1, hTT, .inr ⟨rfl, hJ4⟩⟩
  have hE4 := hH1.ext hE1 hO4
  have hP4 : PBox l yb cb vb gc lc W4 := hH1.box ⟨y1, y2, y3⟩ hO4
  obtain ⟨d0, d1, d2, d3, d4⟩ := box5T hTB hO4 ⟨b0, b1, b2, b3, b4⟩
  obtain ⟨z1, z2, z3⟩ := hP4
  have hOW4 : Only (fun b => ¬ T b) W W4 := hO1.trans hO4 (fun k hk hn hk2 => hn (hTT _ hk2))
  clear y1 y2 y3 b0 b1 b2 b3 b4 hR hy hO4 hJ1 hE1 hO1 hx1 hW1
  gi_wp2_with fail
  refine (callsIn_wide.2 (hC.2.2 _ hs _ _ (PartAt.ext hE4 _ _ hv0) hE4)).mono ?_
  rintro e W5 ⟨rfl, hx5⟩
  have hJ5 := hY.step _ T1 T1 _ _ hJ4 hx5 (fun _ h => h) (fun _ h => .inl h)
  have hOW5 : Only (fun b => ¬ T b) W W5 := hOW4.trans (Only.of_ext (M := fun _ => False) hx5) (fun _ _ h => h.elim)
  cases hclo : clo (.mk f t p b q) with
  | true =>
    rw [hclo] at HR
    gi_wp2_with fail
    go_ret
    exact ⟨hOW5, T1, hTT, .inl ⟨rfl, by rw [HR.out]; exact hJ5⟩⟩
  | false =>
    rw [hclo] at HR
    have hO45 : Only (fun b => ¬ T1 b) W4 W5 := Only.of_ext hx5
    have hE5 := hH1.ext hE4 hO45
    obtain ⟨u1, u2, u3⟩ := hH1.box (l := l) (gc := gc) (lc := lc) ⟨z1, z2, z3⟩ hO45
    obtain ⟨e0, e1, e2, e3, e4⟩ := box5T hTB hO45 ⟨d0, d1, d2, d3, d4⟩
    obtain ⟨_, _, hP3, hcap⟩ := PartAt.open hv0
    simp only [PartD.parts] at hP3
    clear d0 d1 d2 d3 d4 z1 z2 z3 hJ4 hO45 hOW4 hE4 hx5
    gi_wp2_with fail
    gi_loopw [18] (fun i W' => ∃ (j : Nat) (T' : BSet), i = .int .i64 j ∧ j ≤ q.length ∧ (∀ b, T1 b → T' b) ∧ Only (fun b => ¬ T1 b) W5 W' ∧ J (k + 1 + (allsL wB clo (q.take j) a4 0).length) T' W') (fun i _ => q.length - (intOf i).toNat)
    case atStart => exact ⟨0, T1, rfl, Nat.zero_le _, fun _ h => h, Only.refl _ _, by rw [List.take_zero, allsL]; exact hJ5⟩
    case round =>
      obtain ⟨j, T', rfl, hj, hT', hOr, hJr⟩ := hrel
      have hOWr : Only (fun b => ¬ T b) W wr := hOW5.trans hOr (fun k hk hn hk2 => hn (hTT _ hk2))
      by_cases hlt : j < q.length
      case neg =>
        have hfin := Lib.hid hJr
        rw [List.take_of_length_le (by omega)] at hfin
        clear hJr
        gi_wp2_with fail
        go_ret
        refine ⟨hOWr, T', fun b h => hT' b (hTT b h), .inl ⟨rfl, ?_⟩⟩
        rw [HR.out]
        have := hfin.out
        rw [Nat.add_assoc, Nat.add_comm 1] at this
        exact this
      have hdk : q[j]? = some q[j] := List.getElem?_eq_getElem hlt
      have hEr := hH1.ext hE5 hOr
      have hPr : PBox l yb cb vb gc lc wr := hH1.box ⟨u1, u2, u3⟩ hOr
      obtain ⟨g, o, aa0, cc0, aa2, cc2, aa4, cc4, hga, r0, r1, r2, r3, r4, hdp⟩ := PartsAt.at q a4 0 j q[j] hP3 hdk
      subst hga
      rw [Nat.zero_add] at r0 r1 r2 r3 r4
      have hKid := kidAt_of r0 r1 r2 r3 r4
      replace r0 := cell_ext hEr r0
      replace r1 := cell_ext hEr r1
      replace r2 := cell_ext hEr r2
      replace r3 := cell_ext hEr r3
      replace r4 := cell_ext hEr r4
      have hsucc := allsL_succ wB clo (some ⟨g, o, none⟩) q j hlt
      have hget := allsL_get wB clo (some ⟨g, o, none⟩) q j hlt
      rw [hKid] at hsucc hget
      have HS := Lib.hid hsucc
      have HGt := Lib.hid hget
      have hIH := Lib.hid (IH.out q[j] (List.getElem_mem hlt) (.agg #[.slice aa0 q[j].fields.length cc0, str q[j].type, .slice aa2 q[j].params.length cc2, str q[j].body, .slice aa4 q[j].parts.length cc4]) (k + 1 + (allsL wB clo (q.take j) (some ⟨g, o, none⟩) 0).length) T')
      have hxa : Ext wr (wr.alloc (.cells #[.slice aa0 q[j].fields.length cc0, str q[j].type, .slice aa2 q[j].params.length cc2, str q[j].body, .slice aa4 q[j].parts.length cc4] 26)) := ext_alloc (Below.refl _ _) _
      have hPa : PBox l yb cb vb gc lc (wr.alloc (.cells #[.slice aa0 q[j].fields.length cc0, str q[j].type, .slice aa2 q[j].params.length cc2, str q[j].body, .slice aa4 q[j].parts.length cc4] 26)) := hH1.box hPr (Only.of_ext hxa)
      have hPaH := Lib.hid hPa
      obtain ⟨x1, x2, x3⟩ := hPa
      clear hsucc hget hKid hdk hPr u1 u2 u3 e0 e1 e2 e3 e4 hE5 hJ5
      gi_wp2_with fail
      refine (hIH.out _ hdp ?hxs (hY.step _ T' T' _ _ hJr hxa (fun _ h => h) (fun _ h => .inl h)) (hH1.mono hT') (ext_trans hEr hxa) hPaH.out).mono ?_
      case hxs =>
        intro i x hx
        have h1 := HXS.out _ x ((congrArg (fun z => z[1 + ((allsL wB clo (q.take j) (some ⟨g, o, none⟩) 0).length + i)]?) HR.out).trans ((by rw [Nat.add_comm 1]; rfl : _ = (allsL wB clo q (some ⟨g, o, none⟩) 0)[(allsL wB clo (q.take j) (some ⟨g, o, none⟩) 0).length + i]?).trans (HGt.out i x hx)))
        rwa [← Nat.add_assoc, ← Nat.add_assoc] at h1
      rintro e W6 ⟨hO6, T2, hT2, (⟨rfl, hJ6⟩ | ⟨rfl, hJ6⟩)⟩
      · rw [Nat.add_assoc, ← List.length_append, ← HS.out] at hJ6
        have hO56 : Only (fun b => ¬ T1 b) W5 W6 := (hOr.trans (Only.of_ext (M := fun _ => False) hxa) (fun _ _ h => h.elim)).trans hO6 (fun m _ hn hm => hn (hT' _ hm))
        clear HS HGt hIH HXS HR hO6
        gi_wp2_with fail
        exact ⟨⟨j + 1, T2, by go_num, hlt, fun b h => hT2 b (hT' b h), hO56, hJ6⟩, by simp [intOf]; omega⟩
      · have hO6' : Only (fun b => ¬ T b) W W6 := (hOWr.trans (Only.of_ext (M := fun _ => False) hxa) (fun _ _ h => h.elim)).trans hO6 (fun m _ hn hm => hn (hT' _ (hTT _ hm)))
        clear HS HGt hIH HXS HR
        gi_wp2_with fail
        go_ret
        exact ⟨hO6', T2, fun b h => hT2 b (hT' b (hTT b h)), .inr ⟨rfl, hJ6⟩⟩

end Go.Proofs.YtjbllanlfgbpkaaGreatDoor
