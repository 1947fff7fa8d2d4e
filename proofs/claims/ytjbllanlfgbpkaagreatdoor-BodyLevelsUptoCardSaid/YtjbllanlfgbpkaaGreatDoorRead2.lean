/- visitReadable, readable: the iterator over the readable leaves -/
import Derived.Test.YtjbllanlfgbpkaaGreatDoorRead1
import Derived.Test.YtjbllanlfgbpkaaGreatDoorRange
namespace Go.Proofs.YtjbllanlfgbpkaaGreatDoor
open Go.RowKit

attribute [local go_sem] Oper.semAt_some wide_fn wide_depth round_fn round_depth

/-- five cells of a block that was laid, later -/
theorem box5 {w w' : World} {v0 v1 v2 v3 v4 : Value} {T : TypeId} (hx : Ext (w.alloc (.cells #[v0, v1, v2, v3, v4] T)) w') :
    w'.cell? ⟨w.heap.size, 0, none⟩ = some v0 ∧ w'.cell? ⟨w.heap.size, 1, none⟩ = some v1 ∧ w'.cell? ⟨w.heap.size, 2, none⟩ = some v2 ∧ w'.cell? ⟨w.heap.size, 3, none⟩ = some v3 ∧ w'.cell? ⟨w.heap.size, 4, none⟩ = some v4 := by
  have h := heap_alloc_new w (.cells #[v0, v1, v2, v3, v4] T)
  exact ⟨cell_ext hx (by rw [Lib.cell_of_heap h]; rfl), cell_ext hx (by rw [Lib.cell_of_heap h]; rfl), cell_ext hx (by rw [Lib.cell_of_heap h]; rfl), cell_ext hx (by rw [Lib.cell_of_heap h]; rfl), cell_ext hx (by rw [Lib.cell_of_heap h]; rfl)⟩

/-- What an iterator over xs may ask of its caller: an invariant, and the yield. wB: the world in which all that it reads lay already. -/
structure Yields (wB : World) (l : Nat) (xs : List Value) (J : Nat → World → Prop) (Jx : World → Prop) : Prop where
  ext : ∀ k W, J k W → Ext wB W
  step : ∀ k W1 W2, J k W1 → Ext W1 W2 → J k W2
  stepx : ∀ W1 W2, Jx W1 → Ext W1 W2 → Jx W2
  yield : ∀ k x W1, xs[k]? = some x → J k W1 → YieldAt Fence.wide 0 Tryz.prog l #[x] W1 fun e W' => (e = .returned (.bool true) ∧ J (k + 1) W') ∨ (e = .returned (.bool false) ∧ Jx W')

def VisitAt (wB : World) (att : PartD → Bool) (l : Nat) (xs : List Value) (J : Nat → World → Prop) (Jx : World → Prop) (d : PartD) : Prop :=
  ∀ (v : Value) (k : Nat) (W : World), PartAt wB d v → (∀ i x, (reads wB att d v)[i]? = some x → xs[k + i]? = some x.2) → J k W →
    CallsIn Fence.wide 0 Tryz.prog 70 #[v, .func (.yield l) #[] #[]] W fun e W' => (e = .returned (.bool true) ∧ J (k + (reads wB att d v).length) W') ∨ (e = .returned (.bool false) ∧ Jx W')

set_option maxHeartbeats 4000000 in
theorem visit_step {wB : World} {att : PartD → Bool} {Sub : PartD → Prop} (hA : AttOk att Sub) (hG : G wB) {l : Nat} {xs : List Value} {J : Nat → World → Prop} {Jx : World → Prop} (hY : Yields wB l xs J Jx)
    (f : List (Sp.Bs × Sp.Bs)) (t : Sp.Bs) (p : List (Sp.Bs × Sp.Bs)) (b : Sp.Bs) (q : List PartD) (hs : Sub (.mk f t p b q)) (ih : ∀ d ∈ q, VisitAt wB att l xs J Jx d) : VisitAt wB att l xs J Jx (.mk f t p b q) := by
  intro v k W hv hxs hJ
  have hv0 := hv
  obtain ⟨a0, c0, a2, c2, a4, c4, rfl⟩ := hv.shape
  simp only [PartD.fields, PartD.type, PartD.params, PartD.body, PartD.parts] at hv hv0 hxs ⊢
  have hE := hY.ext _ _ hJ
  have hx1 : Ext W (W.alloc (.cells #[.slice a0 f.length c0, str t, .slice a2 p.length c2, str b, .slice a4 q.length c4] 26)) := ext_alloc (Below.refl _ _) _
  refine callsIn_of_wp Tryz.func70 rfl trivial ?_ rfl
  simp only [Tryz.ntmps70, List.size_toArray, List.length_cons, List.length_nil, Nat.reduceAdd, Nat.reduceSub, Array.replicate_succ, Array.replicate_zero, List.push_toArray, List.append_toArray, List.nil_append, List.cons_append]
  gi_wp2_with (gi_at_call 60; refine (callsIn_wide.2 (kind_any _ _ _ _ _ _)).mono ?_)
  rintro e W2 ⟨rfl, hx2⟩
  have hJ2 := hY.step _ _ _ hJ (ext_trans hx1 hx2)
  have hE2 := hY.ext _ _ hJ2
  obtain ⟨b0, b1, b2, b3, b4⟩ := box5 hx2
  have hA2 := callsIn_wide (n := 0) |>.2 (hA.2.2 _ hs _ _ (PartAt.ext hE2 _ _ hv0) (hG.ext hE2))
  have hlen := hA.2.1 _ hs
  simp only [PartD.parts] at hlen
  have HR := Lib.hid (show reads wB att (.mk f t p b q) (.agg #[.slice a0 f.length c0, str t, .slice a2 p.length c2, str b, .slice a4 q.length c4]) = if Sp.kind t == 2 || att (.mk f t p b q) then [] else if Sp.kind t == 0 then (if Sp.readT t then [(.mk f t p b q, .agg #[.slice a0 f.length c0, str t, .slice a2 p.length c2, str b, .slice a4 q.length c4])] else [])
    else readsL wB att (Sp.takes att t q) q a4 0 by rw [reads]; rfl)
  have HXS := Lib.hid hxs
  have IH := Lib.hid ih
  clear hxs ih hJ hE hx1 hv hx2
  rcases Sp.kind_cases t with hk | hk | hk
  · rw [hk]
    rw [hk] at HR
    gi_wp2_with fail
    refine hA2.mono ?_
    rintro e W3 ⟨rfl, hx3⟩
    have hJ3 := hY.step _ _ _ hJ2 hx3
    replace b0 := cell_ext hx3 b0
    replace b1 := cell_ext hx3 b1
    replace b2 := cell_ext hx3 b2
    replace b3 := cell_ext hx3 b3
    replace b4 := cell_ext hx3 b4
    clear hA2 hx3 hJ2 hE2
    cases hat : att (.mk f t p b q) with
    | true =>
      rw [hat] at HR
      gi_wp2_with fail
      go_ret
      exact .inl ⟨rfl, by rw [HR.out]; exact hJ3⟩
    | false =>
      rw [hat] at HR
      gi_wp2_with fail
      refine (callsIn_wide.2 (readableType_any _ _)).mono ?_
      rintro e W4 ⟨rfl, rfl⟩
      cases hrt : Sp.readT t with
      | false =>
        rw [hrt] at HR
        gi_wp2_with fail
        go_ret
        exact .inl ⟨rfl, by rw [HR.out]; exact hJ3⟩
      | true =>
        rw [hrt] at HR
        have h0 := HXS.out 0 _ (by rw [HR.out]; rfl)
        obtain ⟨fn, tmps, assign, body, hy, hR⟩ := hY.yield k _ _ h0 hJ3
        clear h0
        gi_wp2_with fail
        refine hR.mono ?_
        rintro e W4 (⟨rfl, hJ4⟩ | ⟨rfl, hJ4⟩)
        · gi_wp2_with fail
          go_ret
          exact .inl ⟨rfl, by rw [HR.out]; exact hJ4⟩
        · gi_wp2_with fail
          go_ret
          exact .inr ⟨rfl, hJ4⟩
  · rw [hk]
    rw [hk] at HR
    gi_wp2_with fail
    refine hA2.mono ?_
    rintro e W3 ⟨rfl, hx3⟩
    have hJ3 := hY.step _ _ _ hJ2 hx3
    have hE3 := hY.ext _ _ hJ3
    replace b0 := cell_ext hx3 b0
    replace b1 := cell_ext hx3 b1
    replace b2 := cell_ext hx3 b2
    replace b3 := cell_ext hx3 b3
    replace b4 := cell_ext hx3 b4
    clear hA2 hx3 hJ2 hE2
    cases hat : att (.mk f t p b q) with
    | true =>
      rw [hat] at HR
      gi_wp2_with fail
      go_ret
      exact .inl ⟨rfl, by rw [HR.out]; exact hJ3⟩
    | false =>
      rw [hat] at HR
      obtain ⟨_, _, hP3, hcap⟩ := PartAt.open hv0
      simp only [PartD.parts] at hP3
      by_cases halt : (t == Sp.altT && !q.isEmpty) = true
      · simp only [Bool.and_eq_true, Bool.not_eq_true'] at halt
        obtain ⟨h1, h2⟩ := halt
        have hpos : 0 < q.length := by
          cases q with
          | nil => simp at h2
          | cons _ _ => simp
        have htk : Sp.takes att t q = fun j => j == Sp.choice att q := by funext j; unfold Sp.takes; rw [if_pos (by simp [h1, h2])]
        rw [htk] at HR
        unfold Sp.altT at h1
        clear h2 htk
        obtain ⟨g, o, _, _, _, _, _, _, hga, _⟩ := PartsAt.at q a4 0 0 q[0] hP3 (List.getElem?_eq_getElem hpos)
        subst hga
        have hP4 := PartsAt.ext hE3 q _ 0 hP3
        gi_wp2_with fail
        refine (callsIn_wide.2 (indexFunc_any hA q _ _ _ (hG.ext hE3) (fun d hd => hA.1 _ hs d hd) hlen hP4)).mono ?_
        rintro e W5 ⟨rfl, hx5⟩
        have hJ5 := hY.step _ _ _ hJ3 hx5
        clear hP4 hJ3 hE3 b0 b1 b2 b3 b4
        have hcho : Sp.choice att q = match q.findIdx? (fun c => c.type == Sp.plainT && !att c) with | some i => i | none => q.length - 1 := rfl
        unfold Sp.idxOf
        cases hix : q.findIdx? (fun c => c.type == Sp.plainT && !att c) with
        | some ch =>
          rw [hix] at hcho
          simp only at hcho ⊢
          have hch : ch < q.length := by
            obtain ⟨h, _⟩ := List.findIdx?_eq_some_iff_getElem.1 hix
            exact h
          rw [hcho, show readsL wB att (fun j => j == ch) q (some ⟨g, o, none⟩) 0 = reads wB att q[ch] (kidAt wB (some ⟨g, o, none⟩) ch) by have := readsL_one wB att (some ⟨g, o, none⟩) q 0 ch hch; rw [Nat.zero_add] at this; exact this] at HR
          have HRd := Lib.hid (HR.out.trans (show _ = reads wB att q[ch] (kidAt wB (some ⟨g, o, none⟩) ch) from rfl))
          clear HR hcho hix
          gi_wp2_with fail
          gi_loopw [53] (fun i W' => (i = .int .i64 0 ∧ J k W') ∨ (i = .int .i64 1 ∧ J (k + (reads wB att q[ch] (kidAt wB (some ⟨g, o, none⟩) ch)).length) W')) (fun i _ => 1 - (intOf i).toNat)
          case atStart => exact .inl ⟨rfl, hJ5⟩
          case round =>
            rcases hrel with ⟨rfl, hJr⟩ | ⟨rfl, hJr⟩
            · have hEr := hY.ext _ _ hJr
              obtain ⟨g', o', aa0, cc0, aa2, cc2, aa4, cc4, hga, e0, e1, e2, e3, e4, hdp⟩ := PartsAt.at q (some ⟨g, o, none⟩) 0 ch q[ch] hP3 (List.getElem?_eq_getElem hch)
              cases hga
              rw [Nat.zero_add] at e0 e1 e2 e3 e4
              have hKid : kidAt wB (some ⟨g, o, none⟩) ch = .agg #[.slice aa0 q[ch].fields.length cc0, str q[ch].type, .slice aa2 q[ch].params.length cc2, str q[ch].body, .slice aa4 q[ch].parts.length cc4] := kidAt_of e0 e1 e2 e3 e4
              replace e0 := cell_ext hEr e0
              replace e1 := cell_ext hEr e1
              replace e2 := cell_ext hEr e2
              replace e3 := cell_ext hEr e3
              replace e4 := cell_ext hEr e4
              rw [hKid] at HRd ⊢
              have hIH := Lib.hid (IH.out q[ch] (List.getElem_mem hch) (.agg #[.slice aa0 q[ch].fields.length cc0, str q[ch].type, .slice aa2 q[ch].params.length cc2, str q[ch].body, .slice aa4 q[ch].parts.length cc4]) k)
              clear hKid
              gi_wp2_with fail
              refine (hIH.out _ hdp ?hxs (hY.step _ _ _ hJr (ext_alloc (Below.refl _ _) _))).mono ?_
              case hxs =>
                intro i x hx
                exact HXS.out _ x ((congrArg (·[i]?) HRd.out).trans hx)
              rintro e W4 (⟨rfl, hJ4⟩ | ⟨rfl, hJ4⟩)
              · clear hIH HXS HRd
                gi_wp2_with fail
                exact ⟨.inr ⟨rfl, hJ4⟩, by simp [intOf]⟩
              · gi_wp2_with fail
                go_ret
                exact .inr ⟨rfl, hJ4⟩
            · have hfin := Lib.hid hJr
              clear hJr
              gi_wp2_with fail
              go_ret
              exact .inl ⟨rfl, by rw [HRd.out]; exact hfin.out⟩
        | none =>
          rw [hix] at hcho
          simp only at hcho ⊢
          obtain ⟨ch, hchl⟩ : ∃ ch, q.length = ch + 1 := ⟨q.length - 1, by omega⟩
          have hch : ch < q.length := by omega
          rw [hchl, Nat.add_sub_cancel] at hcho
          rw [hcho, show readsL wB att (fun j => j == ch) q (some ⟨g, o, none⟩) 0 = reads wB att q[ch] (kidAt wB (some ⟨g, o, none⟩) ch) by have := readsL_one wB att (some ⟨g, o, none⟩) q 0 ch hch; rw [Nat.zero_add] at this; exact this] at HR
          have HRd := Lib.hid (HR.out.trans (show _ = reads wB att q[ch] (kidAt wB (some ⟨g, o, none⟩) ch) from rfl))
          clear HR hcho hix
          have hlz : (q.length : Int) - 1 = (ch : Int) := by omega
          clear hchl
          gi_wp2_with fail
          gi_loopw [53] (fun i W' => (i = .int .i64 0 ∧ J k W') ∨ (i = .int .i64 1 ∧ J (k + (reads wB att q[ch] (kidAt wB (some ⟨g, o, none⟩) ch)).length) W')) (fun i _ => 1 - (intOf i).toNat)
          case atStart => exact .inl ⟨rfl, hJ5⟩
          case round =>
            rcases hrel with ⟨rfl, hJr⟩ | ⟨rfl, hJr⟩
            · have hEr := hY.ext _ _ hJr
              obtain ⟨g', o', aa0, cc0, aa2, cc2, aa4, cc4, hga, e0, e1, e2, e3, e4, hdp⟩ := PartsAt.at q (some ⟨g, o, none⟩) 0 ch q[ch] hP3 (List.getElem?_eq_getElem hch)
              cases hga
              rw [Nat.zero_add] at e0 e1 e2 e3 e4
              have hKid : kidAt wB (some ⟨g, o, none⟩) ch = .agg #[.slice aa0 q[ch].fields.length cc0, str q[ch].type, .slice aa2 q[ch].params.length cc2, str q[ch].body, .slice aa4 q[ch].parts.length cc4] := kidAt_of e0 e1 e2 e3 e4
              replace e0 := cell_ext hEr e0
              replace e1 := cell_ext hEr e1
              replace e2 := cell_ext hEr e2
              replace e3 := cell_ext hEr e3
              replace e4 := cell_ext hEr e4
              rw [hKid] at HRd ⊢
              have hIH := Lib.hid (IH.out q[ch] (List.getElem_mem hch) (.agg #[.slice aa0 q[ch].fields.length cc0, str q[ch].type, .slice aa2 q[ch].params.length cc2, str q[ch].body, .slice aa4 q[ch].parts.length cc4]) k)
              clear hKid
              gi_wp2_with fail
              refine (hIH.out _ hdp ?hxs (hY.step _ _ _ hJr (ext_alloc (Below.refl _ _) _))).mono ?_
              case hxs =>
                intro i x hx
                exact HXS.out _ x ((congrArg (·[i]?) HRd.out).trans hx)
              rintro e W4 (⟨rfl, hJ4⟩ | ⟨rfl, hJ4⟩)
              · clear hIH HXS HRd
                gi_wp2_with fail
                exact ⟨.inr ⟨rfl, hJ4⟩, by simp [intOf]⟩
              · gi_wp2_with fail
                go_ret
                exact .inr ⟨rfl, hJ4⟩
            · have hfin := Lib.hid hJr
              clear hJr
              gi_wp2_with fail
              go_ret
              exact .inl ⟨rfl, by rw [HRd.out]; exact hfin.out⟩
      · have htk : Sp.takes att t q = allOf := by funext j; unfold Sp.takes; rw [if_neg halt]
        rw [htk] at HR
        unfold Sp.altT at halt
        cases h1 : (t == [109, 117, 108, 116, 105, 112, 97, 114, 116, 47, 97, 108, 116, 101, 114, 110, 97, 116, 105, 118, 101]) with
        | true =>
          have hq : q = [] := by simpa [h1] using halt
          subst hq
          have hnil : Hid (readsL wB att allOf [] a4 0 = []) := by unfold Hid; rw [readsL]
          clear IH HXS hP3 htk halt
          gi_wp2_with fail
          gi_loopw [53] (fun i W' => i = .int .i64 0 ∧ J k W') (fun i _ => 0)
          case atStart => exact ⟨rfl, hJ3⟩
          case round =>
            obtain ⟨rfl, hJr⟩ := hrel
            gi_wp2_with fail
            go_ret
            exact .inl ⟨rfl, by rw [HR.out, hnil.out]; exact hJr⟩
        | false =>
          clear htk halt
          gi_wp2_with fail
          gi_loopw [53] (fun i W' => ∃ j : Nat, i = .int .i64 j ∧ j ≤ q.length ∧ J (k + (readsL wB att allOf (q.take j) a4 0).length) W') (fun i _ => q.length - (intOf i).toNat)
          case atStart => exact ⟨0, rfl, Nat.zero_le _, by rw [List.take_zero, readsL]; exact hJ3⟩
          case round =>
            obtain ⟨j, rfl, hj, hJr⟩ := hrel
            by_cases hlt : j < q.length
            case neg =>
              have hfin := Lib.hid hJr
              rw [List.take_of_length_le (by first | omega | (simp; omega))] at hfin
              clear hJr
              gi_wp2_with fail
              go_ret
              exact .inl ⟨rfl, by rw [HR.out]; exact hfin.out⟩
            have hlt2 : j < q.length := by first | omega | (simp; omega)
            have hdk : q[j]? = some q[j] := List.getElem?_eq_getElem hlt2
            have hEr := hY.ext _ _ hJr
            obtain ⟨g, o, aa0, cc0, aa2, cc2, aa4, cc4, hga, e0, e1, e2, e3, e4, hdp⟩ := PartsAt.at q a4 0 j q[j] hP3 hdk
            have hKid : kidAt wB a4 j = .agg #[.slice aa0 q[j].fields.length cc0, str q[j].type, .slice aa2 q[j].params.length cc2, str q[j].body, .slice aa4 q[j].parts.length cc4] := by
              rw [Nat.zero_add] at e0 e1 e2 e3 e4
              rw [hga]
              exact kidAt_of e0 e1 e2 e3 e4
            have HK := Lib.hid hKid
            subst hga
            rw [Nat.zero_add] at e0 e1 e2 e3 e4
            replace e0 := cell_ext hEr e0
            replace e1 := cell_ext hEr e1
            replace e2 := cell_ext hEr e2
            replace e3 := cell_ext hEr e3
            replace e4 := cell_ext hEr e4
            have hsucc := readsL_succ wB att (some ⟨g, o, none⟩) q j hlt2
            have hget := readsL_get wB att (some ⟨g, o, none⟩) q j hlt2
            rw [hKid] at hsucc hget
            have HS := Lib.hid hsucc
            have HGt := Lib.hid hget
            have hIH := Lib.hid (IH.out q[j] (List.getElem_mem hlt2) (.agg #[.slice aa0 q[j].fields.length cc0, str q[j].type, .slice aa2 q[j].params.length cc2, str q[j].body, .slice aa4 q[j].parts.length cc4]) (k + (readsL wB att allOf (q.take j) (some ⟨g, o, none⟩) 0).length))
            clear hsucc hget hKid hdk
            gi_wp2_with fail
            refine (hIH.out _ hdp ?hxs (hY.step _ _ _ hJr (ext_alloc (Below.refl _ _) _))).mono ?_
            case hxs =>
              intro i x hx
              have h1 := HXS.out _ x ((congrArg (·[_]?) HR.out).trans (HGt.out i x hx))
              rwa [← Nat.add_assoc] at h1
            rintro e W4 (⟨rfl, hJ4⟩ | ⟨rfl, hJ4⟩)
            · rw [Nat.add_assoc, ← List.length_append, ← HS.out] at hJ4
              clear HS HGt hIH HK HXS HR
              gi_wp2_with fail
              exact ⟨⟨j + 1, by go_num, hlt, hJ4⟩, by simp [intOf]; omega⟩
            · gi_wp2_with fail
              go_ret
              exact .inr ⟨rfl, hJ4⟩
  · rw [hk]
    rw [hk] at HR
    gi_wp2_with fail
    go_ret
    exact .inl ⟨rfl, by rw [HR.out]; exact hJ2⟩

end Go.Proofs.YtjbllanlfgbpkaaGreatDoor
